/-
  What an operation looks at; it is the same over any environment that agrees there.
-/
import Derived.Test.YthpclmlfmhjadaaFw15
set_option linter.unusedSectionVars false
set_option linter.unusedSimpArgs false
set_option linter.unusedVariables false
namespace Go.Abs
variable [Gl : Globals]

def optL : Option Operand → List Operand
  | none => []
  | some x => [x]

def opnds : AOp → List Operand
  | .mv x | .neg x | .not x | .cint _ x | .same x | .b2s x | .mkI _ x | .fa _ x | .nilchk x | .ex x _ | .len x | .lenS x | .load _ _ x | .box _ x | .clear _ _ x | .eqNil _ x | .cap x => [x]
  | .pick c a b => [c, a, b]
  | .bin _ x y | .binS _ x y | .eqB _ x y | .eqP _ x y | .eqA _ _ x y | .eqI _ x y | .ia _ x y | .iaA _ _ x y | .ix x y | .mx x y | .mn x y | .lookup _ x y | .store _ x y | .app _ _ _ _ x y | .copy _ x y | .mkS _ _ _ x y | .mkSN _ _ _ x y | .mapEntry _ x y => [x, y]
  | .mn3 x y z => [x, y, z]
  | .s2b x => [x]
  | .mkF _ a b => a ++ b
  | .sl _ x lo hi mx => x :: (optL lo ++ optL hi ++ optL mx)
  | .slS x lo hi => x :: (optL lo ++ optL hi)
  | .build _ ps | .bslice _ _ ps _ => ps.map (·.2.2)
  | .alloc _ _ | .mkMap | .bad => []
  | .entryStore a b c => [a, b, c]
  | .call _ l => l
  | .callV x l => x :: l

def tmpOf : Operand → Option Nat
  | .tmp t => some t
  | _ => none

def AOper.reads (o : AOper) : List Nat := (opnds o.op).filterMap tmpOf ++ (match o.guard with | some (t, _) => [t] | none => [])

def Same (e e' : Env) (ts : List Nat) : Prop := ∀ t ∈ ts, look e t = look e' t

theorem ev_congr {e e' : Env} {x : Operand} (h : ∀ t, tmpOf x = some t → look e t = look e' t) : ev e x = ev e' x := by
  cases x <;> simp only [ev]
  exact h _ rfl

theorem evs_congr {e e' : Env} : ∀ {l : List Operand}, (∀ x ∈ l, ev e x = ev e' x) → evs e l = evs e' l
  | [], _ => rfl
  | x :: l, h => by simp only [evs]; rw [h x (by simp), evs_congr fun y hy => h y (by simp [hy])]
theorem evp_congr {e e' : Env} : ∀ {l : List (Nat × Nat × Operand)}, (∀ x ∈ l.map (·.2.2), ev e x = ev e' x) → evp e l = evp e' l
  | [], _ => rfl
  | (a, b, x) :: l, h => by simp only [evp]; rw [h x (by simp), evp_congr fun y hy => h y (by simp only [List.map_cons, List.mem_cons]; exact .inr hy)]
theorem optInt_congr {e e' : Env} {x : Option Operand} (h : ∀ y ∈ optL x, ev e y = ev e' y) : optInt e x = optInt e' x := by
  cases x with
  | none => rfl
  | some y => simp only [optInt]; rw [h y (by simp [optL])]

theorem opn_congr {e e' : Env} {o : AOp} (h : ∀ x ∈ opnds o, ev e x = ev e' x) (H : AHeap) : aq o e H = aq o e' H ∧ aeff o e H = aeff o e' H ∧ callee o e = callee o e' := by
  cases o <;> simp only [opnds, List.mem_cons, List.not_mem_nil, or_false, forall_eq_or_imp, forall_eq, List.mem_append] at h <;>
    simp only [aq, aeff, callee, h, and_self]
  case mkF fn a b => rw [evs_congr fun x hx => h x (.inl hx), evs_congr fun x hx => h x (.inr hx)]; simp
  case sl sz x lo hi mx =>
    obtain ⟨h1, h2⟩ := h
    rw [optInt_congr (x := lo) fun y hy => h2 y (.inl (.inl hy)), optInt_congr (x := hi) fun y hy => h2 y (.inl (.inr hy)), optInt_congr (x := mx) fun y hy => h2 y (.inr hy)]
    simp
  case slS x lo hi =>
    obtain ⟨h1, h2⟩ := h
    rw [optInt_congr (x := lo) fun y hy => h2 y (.inl hy), optInt_congr (x := hi) fun y hy => h2 y (.inr hy)]
    simp
  case build z ps => rw [evp_congr h]; simp
  case bslice len z ps T => rw [evp_congr h]; simp
  case call f l => rw [evs_congr h]; simp
  case callV x l => rw [evs_congr h.2]; simp

theorem same_opnds {e e' : Env} {o : AOper} (h : Same e e' o.reads) : ∀ x ∈ opnds o.op, ev e x = ev e' x := by
  intro x hx
  refine ev_congr fun t ht => h t ?_
  exact List.mem_append_left _ (List.mem_filterMap.2 ⟨x, hx, ht⟩)

theorem same_wanted {e e' : Env} {o : AOper} (h : Same e e' o.reads) : wantedA o.guard e = wantedA o.guard e' := by
  unfold wantedA
  cases hg : o.guard with
  | none => rfl
  | some p =>
    obtain ⟨t, b⟩ := p
    simp only []
    rw [h t (by simp [AOper.reads, hg])]

theorem same_step {e e' : Env} {o : AOper} (h : Same e e' o.reads) (H : AHeap) : aq o.op e H = aq o.op e' H ∧ aeff o.op e H = aeff o.op e' H ∧ callee o.op e = callee o.op e' ∧ wantedA o.guard e = wantedA o.guard e' :=
  let ⟨h1, h2, h3⟩ := opn_congr (same_opnds h) H
  ⟨h1, h2, h3, same_wanted h⟩

/-- An environment cut down to some tmps. -/
def cut (ts : List Nat) (e : Env) : Env := ts.filterMap fun t => (look e t).map (t, ·)

theorem look_cut {ts : List Nat} {e : Env} {t : Nat} : look (cut ts e) t = if t ∈ ts then look e t else none := by
  induction ts with
  | nil => rfl
  | cons s ts ih =>
    simp only [cut, List.filterMap_cons] at ih ⊢
    cases hs : look e s with
    | none =>
      simp only [Option.map_none, ih, List.mem_cons]
      by_cases hst : t = s
      · subst hst; simp [hs]
      · simp [hst]
    | some v =>
      simp only [Option.map_some, look, ih, List.mem_cons]
      by_cases hst : s = t
      · subst hst; simp [hs]
      · simp [hst, Ne.symm hst]

theorem cut_same {ts : List Nat} {e : Env} : Same (cut ts e) e ts := fun t ht => by rw [look_cut, if_pos ht]

/-- The operations that change memory, or call. -/
def AOp.sync : AOp → Bool
  | .s2b .. | .alloc .. | .box .. | .bslice .. | .store .. | .app .. | .copy .. | .clear .. | .mkS .. | .mkSN .. | .bad | .mkMap | .mapEntry .. | .entryStore .. | .call .. | .callV .. => true
  | _ => false
/-- The quiet operations that look at memory. -/
def AOp.looks : AOp → Bool
  | .b2s .. | .sl .. | .load .. | .lookup .. => true
  | _ => false

theorem aq_sync {o : AOp} (h : o.sync = true) (e : Env) (H : AHeap) : aq o e H = none := by
  cases o <;> first | (simp [AOp.sync] at h; done) | rfl
theorem aeff_quiet {o : AOp} (h : o.sync = false) (e : Env) (H : AHeap) : aeff o e H = none := by
  cases o <;> first | (simp [AOp.sync] at h; done) | rfl
theorem callee_quiet {o : AOp} (h : o.sync = false) (e : Env) : callee o e = none := by
  cases o <;> first | (simp [AOp.sync] at h; done) | rfl
theorem aq_blind {o : AOp} (h : o.looks = false) (e : Env) (H H' : AHeap) : aq o e H = aq o e H' := by
  cases o <;> first | (simp [AOp.looks] at h; done) | rfl
end Go.Abs
