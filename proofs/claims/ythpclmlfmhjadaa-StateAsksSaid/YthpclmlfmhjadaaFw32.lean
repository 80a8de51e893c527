/-
  Closed calls by computation: the result and the memory behind it, under other names.
-/
import Derived.Test.YthpclmlfmhjadaaFw31
set_option linter.unusedSectionVars false
set_option linter.unusedSimpArgs false
set_option linter.unusedVariables false
namespace Go.Abs
variable [Gl : Globals]

def meqL : List (Bs × Value) → List (Bs × Value) → Bool
  | [], [] => true
  | x :: l, y :: m => decide (x.1 = y.1) && veq 50 x.2 y.2 && meqL l m
  | _, _ => false
theorem meqL_ok : ∀ {l m : List (Bs × Value)}, meqL l m = true → l = m
  | [], [], _ => rfl
  | [], _ :: _, h => by cases h
  | _ :: _, [], h => by cases h
  | x :: l, y :: m, h => by
    simp only [meqL, Bool.and_eq_true, decide_eq_true_eq] at h
    rw [meqL_ok h.2]
    obtain ⟨a, b⟩ := x; obtain ⟨c, d⟩ := y
    rw [show a = c from h.1.1, show b = d from veq_ok _ _ _ h.1.2]

def oeq : AObj → AObj → Bool
  | .dead, .dead => true
  | .blk c T, .blk d U => veqL (veq 50) c d && Nat.beq T U
  | .row s c T, .row r d U => Nat.beq s r && veqL (veq 50) c d && Nat.beq T U
  | .ro c, .ro d => veqL (veq 50) c d
  | .fro c, .fro d => veqL (veq 50) c d
  | .map l, .map m => meqL l m
  | _, _ => false
theorem oeq_ok {a b : AObj} (h : oeq a b = true) : a = b := by
  unfold oeq at h
  split at h
  · rfl
  · simp only [Bool.and_eq_true, Nat.beq_eq] at h; rw [veqL_ok (veq_ok 50) h.1, h.2]
  · simp only [Bool.and_eq_true, Nat.beq_eq] at h; rw [h.1.1, veqL_ok (veq_ok 50) h.1.2, h.2]
  · rw [veqL_ok (veq_ok 50) h]
  · rw [veqL_ok (veq_ok 50) h]
  · rw [meqL_ok h]
  · cases h

def renB (σ : Nat → Nat) (G : AHeap) : List Nat → AHeap → Bool
  | [], [] => true
  | t :: τ, o :: H => (match o with | .dead => Nat.ble (t + 1) G.length | o => match G[t]? with | some g => oeq g (o.ren σ) | none => false) && renB σ G τ H
  | _, _ => false
theorem renB_ok {σ : Nat → Nat} {G : AHeap} : ∀ {τ : List Nat} {H : AHeap}, renB σ G τ H = true → renOk σ G τ H
  | [], [], _ => trivial
  | [], _ :: _, h => by cases h
  | _ :: _, [], h => by cases h
  | t :: τ, o :: H, h => by
    simp only [renB, Bool.and_eq_true] at h
    refine ⟨?_, renB_ok h.2⟩
    have h1 := h.1
    cases o with
    | dead => exact Nat.le_of_ble_eq_true h1
    | _ =>
      simp only at h1 ⊢
      split at h1
      · rename_i g hg; rw [hg, oeq_ok h1]
      · cases h1

def nodupB : List Nat → Bool
  | [] => true
  | x :: l => (!l.contains x) && nodupB l
theorem nodupB_ok : ∀ {l : List Nat}, nodupB l = true → l.Nodup
  | [], _ => List.nodup_nil
  | x :: l, h => by
    simp only [nodupB, Bool.and_eq_true, Bool.not_eq_true'] at h
    refine List.nodup_cons.2 ⟨fun hm => ?_, nodupB_ok h.2⟩
    have := h.1
    simp [hm] at this

/-- A closed call, its result and what is behind it, computed. -/
def checkC (cal : ECal) (f : FuncId) (args : List Value) (H : AHeap) (τ : List Nat) (V : Value) (H1 : AHeap) : Bool :=
  match cal f args H with
  | some (v, G) => veq 50 v (ren (emb τ G.length) V) && nodupB τ && renB (emb τ G.length) G τ H1 && (List.range H.length).all fun i => Nat.beq (emb τ G.length i) i
  | none => false
theorem checkC_ok {P : Program} {cal : ECal} (hcal : CalOk P cal) {f : FuncId} {args : List Value} {H : AHeap} {τ : List Nat} {V : Value} {H1 : AHeap} (h : checkC cal f args H τ V H1 = true) :
    There P f ∧ ACalls P f args H fun v H' => v = V ∧ H' = H1 := by
  unfold checkC at h
  split at h
  · rename_i v G hc
    simp only [Bool.and_eq_true] at h
    obtain ⟨hl, ht, hA⟩ := hcal _ _ _ _ _ hc
    refine ⟨ht, hA.ren ?_⟩
    rintro v' H' ⟨rfl, rfl⟩
    refine ⟨V, H1, τ, nodupB_ok h.1.1.2, renB_ok h.1.2, veq_ok _ _ _ h.1.1.1, fun i hi => ?_, rfl, rfl⟩
    have := h.2
    simp only [List.all_eq_true, List.mem_range, Nat.beq_eq] at this
    exact this i hi
  · cases h
/-- .. a value alone. -/
theorem valueC_ok {P : Program} {cal : ECal} (hcal : CalOk P cal) {f : FuncId} {args : List Value} (ha : args.all atom = true) {V : Value} (hV : atom V = true) (h : (cal f args []).map (·.1) = some V) (G : AHeap) :
    There P f ∧ ACalls P f args G fun v H' => v = V ∧ H' = G := by
  cases hc : cal f args [] with
  | none => rw [hc] at h; cases h
  | some p =>
    obtain ⟨v, H'⟩ := p
    rw [hc] at h; cases h
    obtain ⟨hl, ht, hA⟩ := hcal _ _ _ _ _ hc
    exact ⟨ht, ACalls.pure ha (hA.mono fun _ _ h => h.1) (fun v hv σ => by subst hv; exact ren_atom hV) G⟩
/-- A closed call that leaves the memory as it is; what goes on behind it. -/
theorem stayC {P : Program} {cal : ECal} (hcal : CalOk P cal) {f : FuncId} {args : List Value} {H : AHeap} {K : Value → AHeap → Prop} (V : Value) (h : checkC cal f args H (List.range H.length) V H = true) (hK : K V H) : There P f ∧ ACalls P f args H K :=
  ⟨(checkC_ok hcal h).1, (checkC_ok hcal h).2.mono fun v H' ⟨h1, h2⟩ => by subst h1; subst h2; exact hK⟩
theorem goC {P : Program} {cal : ECal} (hcal : CalOk P cal) {f : FuncId} {args : List Value} {H : AHeap} {K : Value → AHeap → Prop} (τ : List Nat) (V : Value) (H1 : AHeap) (h : checkC cal f args H τ V H1 = true) (hK : K V H1) : There P f ∧ ACalls P f args H K :=
  ⟨(checkC_ok hcal h).1, (checkC_ok hcal h).2.mono fun v H' ⟨h1, h2⟩ => by subst h1; subst h2; exact hK⟩
theorem valC {P : Program} {cal : ECal} (hcal : CalOk P cal) {f : FuncId} {args : List Value} {H : AHeap} {K : Value → AHeap → Prop} (V : Value) (ha : args.all atom = true) (hV : atom V = true) (h : (cal f args []).map (·.1) = some V) (hK : K V H) : There P f ∧ ACalls P f args H K :=
  ⟨(valueC_ok hcal ha hV h H).1, (valueC_ok hcal ha hV h H).2.mono fun v H' ⟨h1, h2⟩ => by subst h1; subst h2; exact hK⟩

/-- Values that lead nowhere. -/
def free1 (v : Value) : Bool := atom v || (match v with | .slice none 0 0 => true | _ => false)
def freeV (v : Value) : Bool := free1 v || (match v with | .agg ⟨l⟩ => l.all free1 | _ => false)
theorem free1_rel {ρ ρ' : Emb} {v v' : Value} (h : free1 v = true) (hr : VRel ρ v v') : VRel ρ' v v' := by
  unfold free1 at h
  simp only [Bool.or_eq_true] at h
  rcases h with h | h
  · cases hr <;> first | exact .atom h | (simp [atom] at h; done)
  · split at h
    · cases hr with
      | atom h => simp [atom] at h
      | sliceN => exact .sliceN
    · cases h
theorem frees_rel {ρ ρ' : Emb} : ∀ {l l' : List Value}, l.all free1 = true → VsRel ρ l l' → VsRel ρ' l l'
  | _, _, _, .nil => .nil
  | v :: l, _, h, .cons hv hl => by
    simp only [List.all_cons, Bool.and_eq_true] at h
    exact .cons (free1_rel h.1 hv) (frees_rel h.2 hl)
theorem freeV_rel {ρ ρ' : Emb} {v v' : Value} (h : freeV v = true) (hr : VRel ρ v v') : VRel ρ' v v' := by
  unfold freeV at h
  simp only [Bool.or_eq_true] at h
  rcases h with h | h
  · exact free1_rel h hr
  · split at h
    · cases hr with
      | atom h => simp [atom] at h
      | agg hr => exact .agg (frees_rel h hr)
    · cases h
theorem freeVs_rel {ρ ρ' : Emb} : ∀ {l l' : List Value}, l.all freeV = true → VsRel ρ l l' → VsRel ρ' l l'
  | _, _, _, .nil => .nil
  | v :: l, _, h, .cons hv hl => by
    simp only [List.all_cons, Bool.and_eq_true] at h
    exact .cons (freeV_rel h.1 hv) (freeVs_rel h.2 hl)
theorem freeC {P : Program} {cal : ECal} (hcal : CalOk P cal) {f : FuncId} {args : List Value} {H : AHeap} {K : Value → AHeap → Prop} (V : Value) (ha : args.all freeV = true) (hV : atom V = true) (h : (cal f args []).map (·.1) = some V) (hK : K V H) : There P f ∧ ACalls P f args H K := by
  cases hc : cal f args [] with
  | none => rw [hc] at h; cases h
  | some p =>
    obtain ⟨v, H'⟩ := p
    rw [hc] at h; cases h
    obtain ⟨hl, ht, hA⟩ := hcal _ _ _ _ _ hc
    refine ⟨ht, ?_⟩
    have h1 : ACalls P f args [] fun v1 H1 => v1 = v ∧ H1 = [] := hA.ren fun v1 H1 hq => ⟨v, [], [], List.nodup_nil, trivial, by rw [hq.1, ren_atom hV], fun i hi => by simp at hi, rfl, rfl⟩
    refine h1.frame (C := []) (args0 := args) [] List.nodup_nil trivial (fun ρ Pr h0 w args' ha' _ => freeVs_rel ha ha') fun v1 C' ⟨hq, hC⟩ => ?_
    subst hC; subst hq
    refine ⟨⟨fun i c h => by simp at h, fun i o c h => by simp at h⟩, fun _ => ?_⟩
    rw [ren_atom hV]
    simpa [back, upds] using hK
end Go.Abs
