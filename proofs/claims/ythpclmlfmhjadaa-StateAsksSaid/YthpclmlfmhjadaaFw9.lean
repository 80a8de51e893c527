/-
  Abstract memory that changes: a new object, an object with other cells, an object that is given up.
-/
import Derived.Test.YthpclmlfmhjadaaFw8
import Derived.Lib.FrozenHead
import Derived.Laws.Append
set_option linter.unusedSectionVars false
set_option linter.unusedSimpArgs false
set_option linter.unusedVariables false
namespace Go.Abs
variable [Gl : Globals]
section
variable {P : Program} {ρ ρ' : Emb} {e : Env} {H : AHeap} {a : Act} {w w' : World} {Pr : Nat → Prop} {h0 : Keep} {C : Prop} {v : Value}

theorem MRel.mono (hl : ρ.le ρ') {es : List (Bs × Value)} {es' : List MapEntry} (h : MRel ρ es es') : MRel ρ' es es' :=
  ⟨h.1, fun i x x' e e' => let ⟨h2, h3, h4⟩ := h.2 i x x' e e'; ⟨h2, h3.mono hl, h4⟩⟩

theorem ObjOk.mono {L : Loc} {o : AObj} (h : ObjOk ρ w L o) (hl : ρ.le ρ') (hb : L.abs = false → w'.heap[L.blk]? = w.heap[L.blk]?) : ObjOk ρ' w' L o := by
  cases o with
  | dead => trivial
  | blk c T =>
    obtain ⟨h1, h2, h3, c', h4, h5⟩ := h
    exact ⟨h1, h2, h3, c', by rw [hb h1]; exact h4, h5.mono hl⟩
  | row sz c T =>
    rcases h with h | ⟨h1, h2, h3, c', h4, h5, h6⟩
    · exact .inl h
    · exact .inr ⟨h1, h2, h3, c', by rw [hb h1]; exact h4, h5, h6.mono hl⟩
  | ro c =>
    rcases h with h | ⟨h1, c', T, fr, h4, h5⟩
    · exact .inl h
    · exact .inr ⟨h1, c', T, fr, by rw [hb h1]; exact h4, h5.mono hl⟩
  | fro c =>
    obtain ⟨h1, h2, c', T, fr, h4, h5⟩ := h
    exact ⟨h1, h2, c', T, fr, by rw [hb h1]; exact h4, h5.mono hl⟩
  | map es =>
    obtain ⟨h1, es', h4, h5⟩ := h
    exact ⟨h1, es', by rw [hb h1]; exact h4, h5.mono hl⟩

theorem ObjOk.lt {L : Loc} {o : AObj} (h : ObjOk ρ w L o) (hd : o ≠ .dead) (hab : L.abs = false) : L.blk < w.heap.size := by
  have key : ∀ {x : Obj}, w.heap[L.blk]? = some x → L.blk < w.heap.size := fun hx => (Array.getElem?_eq_some_iff.1 hx).1
  cases o with
  | dead => exact absurd rfl hd
  | blk c T => obtain ⟨_, _, _, c', h4, _⟩ := h; exact key h4
  | row sz c T =>
    rcases h with ⟨h, _⟩ | ⟨_, _, _, c', h4, _⟩
    · rw [hab] at h; cases h
    · exact key h4
  | ro c =>
    rcases h with ⟨h, _⟩ | ⟨_, c', T, fr, h4, _⟩
    · rw [hab] at h; cases h
    · exact key h4
  | fro c => obtain ⟨_, _, c', T, fr, h4, _⟩ := h; exact key h4
  | map es => obtain ⟨_, es', h4, _⟩ := h; exact key h4

/-- A new id. -/
def ext (ρ : Emb) (n : Nat) (L : Loc) : Emb := fun i => if i = n then some L else ρ i
theorem le_ext {n : Nat} {L : Loc} (h : ρ n = none) : ρ.le (ext ρ n L) := by
  intro i M hM
  by_cases hi : i = n
  · subst hi; rw [h] at hM; cases hM
  · simp [ext, hi, hM]
@[simp] theorem ext_same {n : Nat} {L : Loc} : ext ρ n L n = some L := by simp [ext]

theorem Models.push (hm : Models ρ H Pr h0 w) {L : Loc} {o : AObj} (hok : ObjOk (ext ρ H.length L) w' L o)
    (hold : ∀ i x M, H[i]? = some x → x ≠ .dead → ρ i = some M → M.abs = false → w'.heap[M.blk]? = w.heap[M.blk]?)
    (hnew : L.abs = false → o ≠ .dead → ¬ Pr L.blk ∧ ∀ i x M, H[i]? = some x → x ≠ .dead → ρ i = some M → M.abs = false → M.blk ≠ L.blk)
    (hro : ∀ c, o ≠ .ro c) (hkeep : ∀ b, Pr b → w'.heap[b]? = w.heap[b]?) (hsize : w.heap.size ≤ w'.heap.size) (hio : w'.os = w.os ∧ w'.output = w.output) : Models (ext ρ H.length L) (H ++ [o]) Pr h0 w' := by
  have hl : ρ.le (ext ρ H.length L) := le_ext (hm.bound _ (Nat.le_refl _))
  have get : ∀ {i : Nat} {x : AObj}, (H ++ [o])[i]? = some x → (i < H.length ∧ H[i]? = some x) ∨ (i = H.length ∧ x = o) := by
    intro i x hx
    rcases Nat.lt_trichotomy i H.length with h | h | h
    · rw [List.getElem?_append_left h] at hx; exact .inl ⟨h, hx⟩
    · subst h; simp at hx; exact .inr ⟨rfl, hx.symm⟩
    · rw [List.getElem?_eq_none (by simp; omega)] at hx; cases hx
  have old : ∀ {i : Nat}, i < H.length → ext ρ H.length L i = ρ i := by intro i h; simp [ext, Nat.ne_of_lt h]
  constructor
  · intro i x hx
    rcases get hx with ⟨h, hx⟩ | ⟨rfl, rfl⟩
    · obtain ⟨M, hM, hMo⟩ := hm.ok i x hx
      refine ⟨M, by rw [old h]; exact hM, ?_⟩
      by_cases hd : x = .dead
      · subst hd; trivial
      · exact hMo.mono hl fun hab => hold i x M hx hd hM hab
    · exact ⟨L, by simp, hok⟩
  · intro i hi
    simp at hi
    simp only [ext]
    rw [if_neg (by omega)]
    exact hm.bound i (by omega)
  · intro i x M hx hown hM hab
    rcases get hx with ⟨h, hx⟩ | ⟨rfl, rfl⟩
    · rw [old h] at hM; exact hm.own i x M hx hown hM hab
    · simp at hM; subst hM
      exact (hnew hab (by rintro rfl; cases hown)).1
  · intro i j x y M N hij hx hy hown hd hM hN hMa hNa
    rcases get hx with ⟨h, hx'⟩ | ⟨rfl, rfl⟩ <;> rcases get hy with ⟨h', hy'⟩ | ⟨rfl, rfl⟩
    · rw [old h] at hM; rw [old h'] at hN
      exact hm.inj i j x y M N hij hx' hy' hown hd hM hN hMa hNa
    · rw [old h] at hM; simp at hN; subst hN
      exact (hnew hNa hd).2 i x M hx' (by rintro rfl; cases hown) hM hMa
    · rw [old h'] at hN; simp at hM; subst hM
      exact fun he => (hnew hMa (by rintro rfl; cases hown)).2 j y N hy' hd hN hNa he.symm
    · exact absurd rfl hij
  · intro b hb
    obtain ⟨h1, h2⟩ := hm.keep b hb
    exact ⟨by rw [hkeep b hb]; exact h1, by omega⟩
  · intro i c M hx hM hab
    rcases get hx with ⟨h, hx⟩ | ⟨rfl, rfl⟩
    · rw [old h] at hM; exact hm.ro i c M hx hM hab
    · exact absurd rfl (hro c)
  · exact hm.rop
  · intro x hx
    obtain ⟨h1, h2⟩ := hm.glob x hx
    exact ⟨h1, by rw [hkeep _ h1]; exact h2⟩
  · exact ⟨hio.1.trans hm.io.1, hio.2.trans hm.io.2⟩

theorem alloc_old (w : World) (o : Obj) {b : Nat} (h : b < w.heap.size) : (w.alloc o).heap[b]? = w.heap[b]? := heap_alloc_old w o b h

/-- A new block of the world. -/
theorem Models.alloc (hm : Models ρ H Pr h0 w) {L : Loc} {o : AObj} {ob : Obj} (hb : L.abs = false → L.blk = w.heap.size) (hro : ∀ c, o ≠ .ro c) (hok : ObjOk (ext ρ H.length L) (w.alloc ob) L o) : Models (ext ρ H.length L) (H ++ [o]) Pr h0 (w.alloc ob) := by
  refine hm.push hok (fun i x M hx hd hM hab => ?_) (fun hab _ => ⟨fun hp => ?_, fun i x M hx hd hM hab' he => ?_⟩) hro (fun b hb => ?_) (by simp) ⟨rfl, rfl⟩
  · obtain ⟨M', hM', hMo⟩ := hm.ok i x hx
    rw [hM] at hM'; cases hM'
    exact alloc_old w ob (hMo.lt hd hab)
  · have := (hm.keep _ hp).2; rw [hb hab] at this; omega
  · obtain ⟨M', hM', hMo⟩ := hm.ok i x hx
    rw [hM] at hM'; cases hM'
    have := hMo.lt hd hab'; rw [he, hb hab] at this; omega
  · exact alloc_old w ob (hm.keep b hb).2

theorem Models.kill (hm : Models ρ H Pr h0 w) (i : Nat) : Models ρ (H.set i .dead) Pr h0 w := by
  have get : ∀ {k : Nat} {x : AObj}, (H.set i .dead)[k]? = some x → x = .dead ∨ (k ≠ i ∧ H[k]? = some x) := by
    intro k x hx
    rw [List.getElem?_set] at hx
    split at hx
    · split at hx
      · cases hx; exact .inl rfl
      · cases hx
    · exact .inr ⟨fun h => ‹¬ _› h.symm, hx⟩
  constructor
  · intro k x hx
    rcases get hx with rfl | ⟨_, h⟩
    · have hk : k < H.length := by
        have := (List.getElem?_eq_some_iff.1 hx).1
        simpa using this
      obtain ⟨M, hM, _⟩ := hm.ok k _ (List.getElem?_eq_getElem hk)
      exact ⟨M, hM, trivial⟩
    · exact hm.ok k x h
  · intro k hk; exact hm.bound k (by simpa using hk)
  · intro k x M hx hown hM hab
    rcases get hx with rfl | ⟨_, h⟩
    · cases hown
    · exact hm.own k x M h hown hM hab
  · intro k j x y M N hij hx hy hown hd hM hN h1 h2
    rcases get hx with rfl | ⟨_, h⟩
    · cases hown
    · rcases get hy with rfl | ⟨_, h'⟩
      · exact absurd rfl hd
      · exact hm.inj k j x y M N hij h h' hown hd hM hN h1 h2
  · exact hm.keep
  · intro k c M hx hM hab
    rcases get hx with h | ⟨_, h⟩
    · cases h
    · exact hm.ro k c M h hM hab
  · exact hm.rop
  · exact hm.glob
  · exact hm.io

/-- An object with other contents, in its place. -/
theorem Models.change (hm : Models ρ H Pr h0 w) {i : Nat} {o o' : AObj} {L : Loc} (ho : H[i]? = some o) (hown : o.own = true) (hown' : o'.own = true) (hL : ρ i = some L)
    (hok : ObjOk ρ w' L o') (hold : ∀ b, (L.abs = true ∨ b ≠ L.blk) → w'.heap[b]? = w.heap[b]?) (hsize : w.heap.size ≤ w'.heap.size) (hio : w'.os = w.os ∧ w'.output = w.output) : Models ρ (H.set i o') Pr h0 w' := by
  have hi : i < H.length := (List.getElem?_eq_some_iff.1 ho).1
  have get : ∀ {k : Nat} {x : AObj}, (H.set i o')[k]? = some x → (k = i ∧ x = o') ∨ (k ≠ i ∧ H[k]? = some x) := by
    intro k x hx
    by_cases hk : i = k
    · subst hk; rw [List.getElem?_set_self hi] at hx; cases hx; exact .inl ⟨rfl, rfl⟩
    · rw [List.getElem?_set_ne hk] at hx; exact .inr ⟨fun h => hk h.symm, hx⟩
  have apart : ∀ {k : Nat} {x : AObj} {M : Loc}, k ≠ i → H[k]? = some x → x ≠ .dead → ρ k = some M → M.abs = false → L.abs = true ∨ M.blk ≠ L.blk := by
    intro k x M hk hx hd hM hab
    by_cases hLa : L.abs = false
    · exact .inr fun he => hm.inj i k o x L M (Ne.symm hk) ho hx hown hd hL hM hLa hab he.symm
    · exact .inl (by simpa using hLa)
  constructor
  · intro k x hx
    rcases get hx with ⟨rfl, rfl⟩ | ⟨hk, h⟩
    · exact ⟨L, hL, hok⟩
    · obtain ⟨M, hM, hMo⟩ := hm.ok k x h
      refine ⟨M, hM, ?_⟩
      by_cases hd : x = .dead
      · subst hd; trivial
      · exact hMo.mono (Emb.le_refl ρ) fun hab => hold _ (apart hk h hd hM hab)
  · intro k hk; exact hm.bound k (by simpa using hk)
  · intro k x M hx hown'' hM hab
    rcases get hx with ⟨rfl, rfl⟩ | ⟨hk, h⟩
    · exact hm.own _ o M ho hown hM hab
    · exact hm.own k x M h hown'' hM hab
  · intro k j x y M N hij hx hy hox hd hM hN h1 h2
    rcases get hx with ⟨rfl, rfl⟩ | ⟨hk, h⟩ <;> rcases get hy with ⟨rfl, rfl⟩ | ⟨hj, h'⟩
    · exact absurd rfl hij
    · exact hm.inj _ j o y M N hij ho h' hown hd hM hN h1 h2
    · exact hm.inj k _ x o M N hij h ho hox (by rintro rfl; cases hown) hM hN h1 h2
    · exact hm.inj k j x y M N hij h h' hox hd hM hN h1 h2
  · intro b hb
    obtain ⟨h1, h2⟩ := hm.keep b hb
    refine ⟨?_, by omega⟩
    rw [← h1]
    by_cases hLa : L.abs = false
    · exact hold b (.inr fun he => hm.own i o L ho hown hL hLa (he ▸ hb))
    · exact hold b (.inl (by simpa using hLa))
  · intro k c M hx hM hab
    rcases get hx with ⟨rfl, rfl⟩ | ⟨hk, h⟩
    · cases hown'
    · exact hm.ro k c M h hM hab
  · exact hm.rop
  · intro x hx
    obtain ⟨h1, h2⟩ := hm.glob x hx
    refine ⟨h1, ?_⟩
    suffices hh : w'.heap[x.1]? = w.heap[x.1]? by rw [hh]; exact h2
    by_cases hLa : L.abs = false
    · exact hold x.1 (.inr fun he => hm.own i o L ho hown hL hLa (he ▸ h1))
    · exact hold x.1 (.inl (by simpa using hLa))
  · exact ⟨hio.1.trans hm.io.1, hio.2.trans hm.io.2⟩
end
end Go.Abs
