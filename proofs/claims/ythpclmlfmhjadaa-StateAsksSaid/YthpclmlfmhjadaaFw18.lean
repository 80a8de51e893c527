/-
  Regions whose order is drawn: the abstract run, and what holds at each place of a drawn run.
-/
import Derived.Test.YthpclmlfmhjadaaFw17
set_option linter.unusedSectionVars false
set_option linter.unusedSimpArgs false
set_option linter.unusedVariables false
namespace Go.Abs
variable [Gl : Globals]

abbrev Rs := List (Nat × AOp × Env × Value)

def recheck : Rs → List Nat → AHeap → Prop
  | [], _, _ => True
  | (i, o, e, v) :: r, an, H => (if an.contains i = true then True else match aq o e H with | some (C, u) => C ∧ u = v | none => False) ∧ recheck r an H

abbrev Dx := Rs → Env → AHeap → Prop
/-- What goes on behind a call. -/
def dwK (D : Dx) (rs : Rs) (an : List Nat) (dst : Option Nat) (e : Env) (v : Value) (H' : AHeap) : Prop := recheck rs an H' ∧ D rs (bind dst v e) H'
def dsgo (D : Dx) (r : Option (Prop × Value × AHeap)) (rs : Rs) (an : List Nat) (dst : Option Nat) (e : Env) : Prop := match r with
  | some r => r.1 ∧ recheck rs an r.2.2 ∧ D rs (bind dst r.2.1 e) r.2.2
  | none => False
def dpgo (P : Program) (D : Dx) (p : Option (FuncId × List Value)) (o : AOper) (rs : Rs) (an : List Nat) (e : Env) (H : AHeap) : Prop := match p with
  | some p => There P p.1 ∧ ACalls P p.1 p.2 H (dwK D rs an o.dst e)
  | none => dsgo D (aeff o.op e H) rs an o.dst e
def dqgo (D : Dx) (r : Option (Prop × Value)) (i : Nat) (o : AOper) (rs : Rs) (e : Env) (H : AHeap) : Prop := match r with
  | some r => r.1 ∧ D (if o.op.looks = true then (i, o.op, e, r.2) :: rs else rs) (bind o.dst r.2 e) H
  | none => False
def dwgo (P : Program) (D : Dx) (w : Option Bool) (i : Nat) (o : AOper) (rs : Rs) (an : List Nat) (e : Env) (H : AHeap) : Prop := match w with
  | some true => if o.op.sync = true then dpgo P D (callee o.op e) o rs an e H else dqgo D (aq o.op e H) i o rs e H
  | some false => D rs (bind o.dst (.tuple #[]) e) H
  | none => False
def DW (P : Program) (an : List (List Nat)) (K : Env → AHeap → Prop) : List (Nat × AOper) → Rs → Env → AHeap → Prop
  | [], _, e, H => K e H
  | (i, o) :: l, rs, e, H => dwgo P (DW P an K l) (wantedA o.guard e) i o rs (anOf an i) e H

section
variable {P : Program} {D : Dx} {r : Prop × Value × AHeap} {q : Prop × Value} {dst : Option Nat} {e : Env} {H : AHeap} {o : AOper} {p : FuncId × List Value} {i : Nat} {rs : Rs} {an : List Nat}
theorem dsgo_some : dsgo D (some r) rs an dst e = (r.1 ∧ recheck rs an r.2.2 ∧ D rs (bind dst r.2.1 e) r.2.2) := rfl
theorem dpgo_some : dpgo P D (some p) o rs an e H = (There P p.1 ∧ ACalls P p.1 p.2 H (dwK D rs an o.dst e)) := rfl
theorem dpgo_none : dpgo P D none o rs an e H = dsgo D (aeff o.op e H) rs an o.dst e := rfl
theorem dqgo_some : dqgo D (some q) i o rs e H = (q.1 ∧ D (if o.op.looks = true then (i, o.op, e, q.2) :: rs else rs) (bind o.dst q.2 e) H) := rfl
theorem dwgo_true : dwgo P D (some true) i o rs an e H = if o.op.sync = true then dpgo P D (callee o.op e) o rs an e H else dqgo D (aq o.op e H) i o rs e H := rfl
theorem dwgo_false : dwgo P D (some false) i o rs an e H = D rs (bind o.dst (.tuple #[]) e) H := rfl
end

theorem DW_cons {P : Program} {an : List (List Nat)} {K : Env → AHeap → Prop} {i : Nat} {o : AOper} {l : List (Nat × AOper)} {rs : Rs} {e : Env} {H : AHeap} :
    DW P an K ((i, o) :: l) rs e H = match wantedA o.guard e with
    | none => False
    | some t => if t = true then
        (if o.op.sync = true then
          (match callee o.op e with
          | some (f, vs) => (∃ fn c, P.funcs[f]? = some fn ∧ fn.body = some c ∧ (fn.name == "runtime.NumGoroutine") = false) ∧ ACalls P f vs H fun v H' => recheck rs (anOf an i) H' ∧ DW P an K l rs (bind o.dst v e) H'
          | none => match aeff o.op e H with
            | some (C, v, H') => C ∧ recheck rs (anOf an i) H' ∧ DW P an K l rs (bind o.dst v e) H'
            | none => False)
        else match aq o.op e H with
          | some (C, v) => C ∧ DW P an K l (if o.op.looks = true then (i, o.op, e, v) :: rs else rs) (bind o.dst v e) H
          | none => False)
      else DW P an K l rs (bind o.dst (.tuple #[]) e) H := by
  rw [DW]
  cases wantedA o.guard e with
  | none => rfl
  | some t =>
    cases t with
    | false => rfl
    | true =>
      simp only [dwgo_true, if_true]
      cases o.op.sync with
      | true =>
        simp only [if_true]
        cases callee o.op e with
        | some p => rfl
        | none =>
          simp only [dpgo_none]
          cases aeff o.op e H <;> rfl
      | false =>
        simp only [Bool.false_eq_true, if_false]
        cases aq o.op e H <;> rfl

theorem recheck_mem : ∀ {rs : Rs} {an : List Nat} {H : AHeap}, recheck rs an H → ∀ {i : Nat} {o : AOp} {e : Env} {v : Value}, (i, o, e, v) ∈ rs → i ∉ an → ∃ C, aq o e H = some (C, v) ∧ C
  | (j, o, e, v) :: r, an, H, h, i, o', e', v', hm, hn => by
    simp only [recheck] at h
    rcases List.mem_cons.1 hm with h1 | h1
    · cases h1
      have h2 := h.1
      rw [if_neg (by simpa using hn)] at h2
      split at h2
      · rename_i C u hq; exact ⟨C, by rw [hq, h2.2], h2.1⟩
      · exact h2.elim
    · exact recheck_mem h.2 h1 hn

/-- A block that was made ahead of its place: who made it, where, what. -/
abbrev Hid := Option (Nat × Nat × Obj)

def hidPr (Pr : Nat → Prop) (hid : Hid) : Nat → Prop := fun b => Pr b ∨ ∃ j ob, hid = some (j, b, ob)
def hidKeep (h0 : Keep) (hid : Hid) : Keep := ⟨fun x => match hid with | some (_, b, ob) => if x = b then some ob else h0.at' x | none => h0.at' x, h0.ro, h0.w0⟩

theorem hidPr_none {Pr : Nat → Prop} : hidPr Pr none = Pr := by funext b; simp [hidPr]
theorem hidKeep_none {h0 : Keep} : hidKeep h0 none = h0 := rfl

structure HidOk (l : List AOper) (fl : Option Nat) (S : Nat → Bool) (X : List Nat) (ρ : Emb) (Pr : Nat → Prop) (hid : Hid) (a : Act) : Prop where
  ok : ∀ j b ob, hid = some (j, b, ob) → fl = some j ∧ S j = true ∧ j ∉ X ∧ ¬ Pr b ∧ ∃ z T d c', l[j]? = some ⟨some d, .alloc z T, none⟩ ∧ ob = .cells c' T ∧ VsRel ρ z c'.toList ∧ a.tmps[d]? = some (.pointer (some ⟨b, 0, none⟩))

structure Pend (l : List AOper) (an : List (List Nat)) (e0 : Env) (vals : Nat → Value) (rs : Rs) (H : AHeap) (j : Nat) (o : AOper) (ej : Env) : Prop where
  same : ∀ t ∈ o.reads, look ej t = val l e0 vals (inn (anOf an j)) t
  does : (wantedA o.guard ej = some false ∧ vals j = .tuple #[]) ∨ (wantedA o.guard ej = some true ∧ ∃ C, aq o.op ej H = some (C, vals j) ∧ C ∧ (o.op.looks = true → (j, o.op, ej, vals j) ∈ rs))

/-- What the check says. -/
structure Stat (l : List AOper) (af an : List (List Nat)) (fl : Option Nat) : Prop where
  ord : Ordered l an
  dir : ∀ j, j < l.length → ∀ d ∈ anOf af j, d < j ∧ d ∈ anOf an j ∧ ∀ x ∈ anOf an d, x ∈ anOf an j
  lt : ∀ j i, i ∈ anOf an j → i < j
  back : ∀ j i, i ∈ anOf an j → i ∈ anOf af j ∨ ∃ d ∈ anOf af j, i ∈ anOf an d
  len : af.length = l.length
  flo : flOk l fl = true

/-- At a place of a drawn run: S has run, X has run in the plan. -/
structure DInv (P : Program) (N k : Nat) (l : List AOper) (an : List (List Nat)) (fl : Option Nat) (K : Env → AHeap → Prop) (e0 : Env) (ρ0 : Emb) (Pr : Nat → Prop) (h0 : Keep)
    (S : Nat → Bool) (a : Act) (w : World) (X rest : List Nat) (vals : Nat → Value) (rs : Rs) (e : Env) (H : AHeap) (ρ : Emb) (hid : Hid) : Prop where
  sub : ∀ j, S j = true → j < l.length ∧ (j ∈ X ∨ ∃ b ob, hid = some (j, b, ob))
  clo : Closed an S
  plan : planOk l an fl X rest = true
  all : ∀ j, j < l.length → j ∈ X ∨ j ∈ rest
  xlt : ∀ j ∈ X, j < l.length
  xclo : Closed an (inn X)
  syn : ∀ j ∈ X, ∀ o, l[j]? = some o → o.op.sync = true → S j = true ∧ ∀ z ∈ rest, j ∈ anOf an z ∨ fl = some z
  pend : ∀ j ∈ X, S j = false → ∀ o, l[j]? = some o → ∃ ej, Pend l an e0 vals rs H j o ej
  env : ∀ t, look e t = val l e0 vals (inn X) t
  act : ∀ t v, (∀ j b ob o, hid = some (j, b, ob) → l[j]? = some o → o.dst ≠ some t) → val l e0 vals S t = some v → ∃ v', a.tmps[t]? = some v' ∧ VRel ρ v v'
  size : a.tmps.size = N
  defers : a.defers = []
  dw : DW P an K (rest.filterMap fun i => (l[i]?).map (i, ·)) rs e H
  mem : Models ρ H (hidPr Pr hid) (hidKeep h0 hid) w
  hok : HidOk l fl S X ρ Pr hid a
  klen : k ≤ H.length
  agree : ∀ i, i < k → ρ i = ρ0 i
  hro : ∀ b, h0.ro b → Pr b
  hgl : ∀ x ∈ Gl.tab, Pr x.1

section
variable {P : Program} {N k : Nat} {l : List AOper} {af an : List (List Nat)} {fl : Option Nat} {K : Env → AHeap → Prop} {e0 : Env} {ρ0 : Emb} {Pr : Nat → Prop} {h0 : Keep}
variable {S : Nat → Bool} {a : Act} {w : World} {X rest : List Nat} {vals : Nat → Value} {rs : Rs} {e : Env} {H : AHeap} {ρ : Emb} {hid : Hid}

theorem plan_head {i : Nat} (h : planOk l an fl X (i :: rest) = true) : i < l.length ∧ i ∉ X ∧ (∀ x ∈ anOf an i, x ∈ X) ∧ (∃ o, l[i]? = some o ∧ (o.op.sync = true → ∀ z ∈ rest, i ∈ anOf an z ∨ fl = some z)) ∧ planOk l an fl (i :: X) rest = true := by
  simp only [planOk, Bool.and_eq_true, decide_eq_true_eq, Bool.not_eq_true', List.all_eq_true, List.contains_iff_mem] at h
  obtain ⟨⟨⟨⟨h1, h2⟩, h3⟩, h4⟩, h5⟩ := h
  refine ⟨h1, fun hm => ?_, h3, ?_, h5⟩
  · rw [List.contains_iff_mem.2 hm] at h2; cases h2
  · split at h4
    · rename_i o ho
      refine ⟨o, ho, fun hs z hz => ?_⟩
      rw [if_pos hs] at h4
      have := List.all_eq_true.1 h4 z hz
      simpa [List.contains_iff_mem] using this
    · cases h4

theorem inn_add (i : Nat) : inn (i :: X) = add (inn X) i := by
  funext j
  simp only [inn, add, List.contains_cons]
  by_cases h : j = i
  · subst h; simp
  · simp [h]

theorem inn_mem {j : Nat} : inn X j = true ↔ j ∈ X := by simp [inn]

theorem stat_not_fl (hst : Stat l af an fl) {i : Nat} {o : AOper} (ho : l[i]? = some o) (hs : o.op.sync = false) : fl ≠ some i := by
  intro hf
  have := hst.flo
  rw [hf] at this
  simp only [flOk, ho] at this
  split at this
  · rename_i h; cases h; simp [AOp.sync] at hs
  · cases this

/-- The plan goes over a quiet operation. -/
theorem DInv.advance (hst : Stat l af an fl) {i : Nat} {o : AOper} (ho : l[i]? = some o) (hq : o.op.sync = false)
    (h : DInv P N k l an fl K e0 ρ0 Pr h0 S a w X (i :: rest) vals rs e H ρ hid) :
    ∃ vals' rs' e', DInv P N k l an fl K e0 ρ0 Pr h0 S a w (i :: X) rest vals' rs' e' H ρ hid := by
  obtain ⟨hil, hiX, hanc, _, hplan⟩ := plan_head h.plan
  have hiS : S i = false := by
    cases hS : S i with
    | false => rfl
    | true =>
      rcases (h.sub i hS).2 with h1 | ⟨b, ob, h1⟩
      · exact absurd h1 hiX
      · exact absurd (h.hok.ok _ _ _ h1).1 (stat_not_fl hst ho hq)
  have hiXf : inn X i = false := by
    cases hx : inn X i with
    | false => rfl
    | true => exact absurd (inn_mem.1 hx) hiX
  have hirr : i ∉ anOf an i := fun hm => Nat.lt_irrefl _ (hst.lt i i hm)
  have hview : ∀ t ∈ o.reads, look e t = val l e0 vals (inn (anOf an i)) t := fun t ht => by
    rw [h.env t]
    exact val_anc hst.ord h.xclo ho hiXf (fun d hd => inn_mem.2 (hanc d hd)) hirr ht
  have hdw := h.dw
  simp only [List.filterMap_cons, ho, Option.map_some] at hdw
  rw [DW_cons] at hdw
  have main : ∀ (v : Value) (rs' : Rs), (∀ r ∈ rs, r ∈ rs') → DW P an K (rest.filterMap fun i => (l[i]?).map (i, ·)) rs' (bind o.dst v e) H →
      ((wantedA o.guard e = some false ∧ v = .tuple #[]) ∨ (wantedA o.guard e = some true ∧ ∃ C, aq o.op e H = some (C, v) ∧ C ∧ (o.op.looks = true → (i, o.op, e, v) ∈ rs'))) →
      ∃ vals' rs' e', DInv P N k l an fl K e0 ρ0 Pr h0 S a w (i :: X) rest vals' rs' e' H ρ hid := by
    intro v rs' hrs hdw' hdoes
    have hvS : ∀ j, S j = true → vals j = upd vals i v j := fun j hj => by
      have : j ≠ i := fun he => by subst he; rw [hiS] at hj; cases hj
      simp [upd, this]
    have hvA : ∀ j, i ∉ anOf an j → ∀ m, inn (anOf an j) m = true → vals m = upd vals i v m := fun j hj m hm => by
      have : m ≠ i := fun he => by subst he; exact hj (inn_mem.1 hm)
      simp [upd, this]
    refine ⟨upd vals i v, rs', bind o.dst v e, ?_⟩
    refine
      { sub := fun j hj => ⟨(h.sub j hj).1, (h.sub j hj).2.imp (List.mem_cons_of_mem _) id⟩
        clo := h.clo
        plan := hplan
        all := fun j hj => ?_
        xlt := fun j hj => ?_
        xclo := ?_
        syn := fun j hj o' ho' hs' => ?_
        pend := fun j hj hSj o' ho' => ?_
        env := fun t => ?_
        act := fun t v' ht hv' => ?_
        size := h.size
        defers := h.defers
        dw := hdw'
        mem := h.mem
        hok := ⟨fun j b ob he => ?_⟩
        klen := h.klen
        agree := h.agree
        hro := h.hro
        hgl := h.hgl }
    · rcases h.all j hj with h1 | h1
      · exact .inl (List.mem_cons_of_mem _ h1)
      · rcases List.mem_cons.1 h1 with rfl | h1
        · exact .inl (by simp)
        · exact .inr h1
    · rcases List.mem_cons.1 hj with rfl | h1
      · exact hil
      · exact h.xlt j h1
    · intro j hj d hd
      rcases List.mem_cons.1 (inn_mem.1 hj) with rfl | h1
      · exact inn_mem.2 (List.mem_cons_of_mem _ (hanc d hd))
      · exact inn_mem.2 (List.mem_cons_of_mem _ (inn_mem.1 (h.xclo j (inn_mem.2 h1) d hd)))
    · rcases List.mem_cons.1 hj with rfl | h1
      · rw [ho] at ho'; cases ho'; rw [hq] at hs'; cases hs'
      · obtain ⟨h2, h3⟩ := h.syn j h1 o' ho' hs'
        exact ⟨h2, fun z hz => h3 z (List.mem_cons_of_mem _ hz)⟩
    · rcases List.mem_cons.1 hj with rfl | h1
      · rw [ho] at ho'; cases ho'
        refine ⟨e, fun t ht => ?_, ?_⟩
        · rw [hview t ht]; exact val_vals (hvA _ hirr)
        · simpa [upd] using hdoes
      · obtain ⟨ej, h2, h3⟩ := h.pend j h1 hSj o' ho'
        have hji : j ≠ i := fun he => hiX (he ▸ h1)
        refine ⟨ej, fun t ht => ?_, ?_⟩
        · rw [h2 t ht]
          exact val_vals (hvA _ fun hm => hiX (inn_mem.1 (h.xclo j (inn_mem.2 h1) i hm)))
        · simp only [upd, if_neg hji]
          rcases h3 with h3 | ⟨h3, C, h4, h5, h6⟩
          · exact .inl h3
          · exact .inr ⟨h3, C, h4, h5, fun hh => hrs _ (h6 hh)⟩
    · rw [inn_add, val_add hst.ord h.xclo hst.lt ho hiXf]
      cases hd : o.dst with
      | none => simp [bind, h.env t]
      | some d =>
        simp only [bind, look, Option.some.injEq]
        by_cases hdt : d = t
        · simp [hdt]
        · simp [hdt, h.env t]
    · refine h.act t v' ht ?_
      rw [← hv']
      exact val_vals hvS
    · obtain ⟨h1, h2, h3, h4⟩ := h.hok.ok j b ob he
      refine ⟨h1, h2, fun hm => ?_, h4⟩
      rcases List.mem_cons.1 hm with rfl | h5
      · exact stat_not_fl hst ho hq h1
      · exact h3 h5
  split at hdw
  · exact hdw.elim
  · rename_i t hw
    split at hdw
    · rename_i ht; subst ht
      rw [if_neg (by simp [hq])] at hdw
      split at hdw
      · rename_i C v hv
        refine main v _ (fun r hr => ?_) hdw.2 (.inr ⟨hw, C, hv, hdw.1, fun hl => ?_⟩)
        · split
          · exact List.mem_cons_of_mem _ hr
          · exact hr
        · rw [if_pos hl]; simp
      · exact hdw.elim
    · rename_i ht
      obtain rfl : t = false := by simpa using ht
      exact main _ rs (fun r hr => hr) hdw (.inl ⟨hw, rfl⟩)
end
end Go.Abs
