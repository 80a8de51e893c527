/-
  Other names for the objects of the abstract memory.
-/
import Derived.Test.YthpclmlfmhjadaaFw21
set_option linter.unusedSectionVars false
set_option linter.unusedSimpArgs false
set_option linter.unusedVariables false
namespace Go.Abs
variable [Gl : Globals]

mutual
def ren (σ : Nat → Nat) : Value → Value
  | .pointer (some ⟨i, o, none⟩) => .pointer (some ⟨σ i, o, none⟩)
  | .slice (some ⟨i, o, none⟩) n c => .slice (some ⟨σ i, o, none⟩) n c
  | .map (some i) => .map (some (σ i))
  | .iface t v => .iface t (ren σ v)
  | .func f ⟨a⟩ ⟨b⟩ => .func f ⟨renL σ a⟩ ⟨renL σ b⟩
  | .agg ⟨a⟩ => .agg ⟨renL σ a⟩
  | .tuple ⟨a⟩ => .tuple ⟨renL σ a⟩
  | v => v
def renL (σ : Nat → Nat) : List Value → List Value
  | [] => []
  | v :: l => ren σ v :: renL σ l
end

theorem ren_atom {σ : Nat → Nat} {v : Value} (h : atom v = true) : ren σ v = v := by
  cases v <;> first | (simp [atom] at h; done) | simp [ren] | skip
  case pointer p => cases p with
    | none => simp [ren]
    | some a => simp [atom] at h
  case map p => cases p with
    | none => simp [ren]
    | some a => simp [atom] at h

theorem renL_eq {σ : Nat → Nat} : ∀ l : List Value, renL σ l = l.map (ren σ)
  | [] => by simp [renL]
  | v :: l => by simp [renL, renL_eq l]

mutual
theorem VRel.unren {ρ : Emb} {σ : Nat → Nat} : ∀ {v x : Value}, VRel ρ (ren σ v) x → VRel (fun i => ρ (σ i)) v x
  | .bool b, _, h => by simp only [ren] at h; cases h; exact .atom rfl
  | .int k n, _, h => by simp only [ren] at h; cases h; exact .atom rfl
  | .float .., _, h => by simp only [ren] at h; cases h; exact .atom rfl
  | .complex .., _, h => by simp only [ren] at h; cases h; exact .atom rfl
  | .string s, _, h => by simp only [ren] at h; cases h; exact .atom rfl
  | .nilFunc, _, h => by simp only [ren] at h; cases h; exact .atom rfl
  | .nilIface, _, h => by simp only [ren] at h; cases h; exact .atom rfl
  | .pointer none, _, h => by simp only [ren] at h; cases h; exact .atom rfl
  | .map none, _, h => by simp only [ren] at h; cases h; exact .atom rfl
  | .chan none, _, h => by simp only [ren] at h; cases h; exact .atom rfl
  | .pointer (some ⟨i, o, none⟩), _, h => by
    simp only [ren] at h
    cases h with
    | atom h => simp [atom] at h
    | ptr h h' => exact .ptr h h'
  | .map (some i), _, h => by
    simp only [ren] at h
    cases h with
    | atom h => simp [atom] at h
    | map h h' => exact .map h h'
  | .slice (some ⟨i, o, none⟩) n c, _, h => by
    simp only [ren] at h
    cases h with
    | atom h => simp [atom] at h
    | slice h h' h2 h3 => exact .slice h h' h2 h3
    | sliceH h h' h2 => exact .sliceH h h' h2
    | sliceE h h' => exact .sliceE h h'
    | sliceA h h' h2 => exact .sliceA h h' h2
  | .slice none n c, _, h => by
    simp only [ren] at h
    cases h with
    | atom h => simp [atom] at h
    | sliceN => exact .sliceN
    | sliceX => exact .sliceX
  | .iface t u, _, h => by
    simp only [ren] at h
    cases h with
    | atom h => simp [atom] at h
    | iface h => exact .iface h.unren
  | .func f ⟨a⟩ ⟨b⟩, _, h => by
    simp only [ren] at h
    cases h with
    | atom h => simp [atom] at h
    | func h h' => exact .func h.unren h'.unren
  | .agg ⟨a⟩, _, h => by
    simp only [ren] at h
    cases h with
    | atom h => simp [atom] at h
    | agg h => exact .agg h.unren
  | .tuple ⟨a⟩, _, h => by
    simp only [ren] at h
    cases h with
    | atom h => simp [atom] at h
    | tuple h => exact .tuple h.unren
  | .pointer (some ⟨i, o, some e⟩), _, h => by simp only [ren] at h; cases h; rename_i h; simp [atom] at h
  | .slice (some ⟨i, o, some e⟩) n c, _, h => by simp only [ren] at h; cases h; rename_i h; simp [atom] at h
  | .chan (some c), _, h => by simp only [ren] at h; cases h; rename_i h; simp [atom] at h
theorem VsRel.unren {ρ : Emb} {σ : Nat → Nat} : ∀ {l l' : List Value}, VsRel ρ (renL σ l) l' → VsRel (fun i => ρ (σ i)) l l'
  | [], l', h => by simp only [renL] at h; cases h; exact .nil
  | v :: l, l', h => by
    simp only [renL] at h
    cases h with
    | cons h h' => exact .cons h.unren h'.unren
end

mutual
theorem VRel.reren {ρ : Emb} {σ : Nat → Nat} : ∀ {v x : Value}, VRel (fun i => ρ (σ i)) v x → VRel ρ (ren σ v) x
  | _, _, .atom h => by rw [ren_atom h]; exact .atom h
  | _, _, .ptr h h' => by simp only [ren]; exact .ptr h h'
  | _, _, .slice h h' h2 h3 => by simp only [ren]; exact .slice h h' h2 h3
  | _, _, .sliceH h h' h2 => by simp only [ren]; exact .sliceH h h' h2
  | _, _, .sliceE h h' => by simp only [ren]; exact .sliceE h h'
  | _, _, .sliceA h h' h2 => by simp only [ren]; exact .sliceA h h' h2
  | _, _, .sliceN => by simp only [ren]; exact .sliceN
  | _, _, .sliceX => by simp only [ren]; exact .sliceX
  | _, _, .map h h' => by simp only [ren]; exact .map h h'
  | _, _, .iface h => by simp only [ren]; exact .iface h.reren
  | _, _, .func h h' => by simp only [ren]; exact .func h.reren h'.reren
  | _, _, .agg h => by simp only [ren]; exact .agg h.reren
  | _, _, .tuple h => by simp only [ren]; exact .tuple h.reren
theorem VsRel.reren {ρ : Emb} {σ : Nat → Nat} : ∀ {l l' : List Value}, VsRel (fun i => ρ (σ i)) l l' → VsRel ρ (renL σ l) l'
  | _, _, .nil => by simp only [renL]; exact .nil
  | _, _, .cons h h' => by simp only [renL]; exact .cons h.reren h'.reren
end

theorem renL_length {σ : Nat → Nat} (l : List Value) : (renL σ l).length = l.length := by rw [renL_eq]; simp

def AObj.ren (σ : Nat → Nat) : AObj → AObj
  | .dead => .dead
  | .blk c T => .blk (renL σ c) T
  | .row sz c T => .row sz (renL σ c) T
  | .ro c => .ro (renL σ c)
  | .fro c => .fro (renL σ c)
  | .map es => .map (es.map fun x => (x.1, Abs.ren σ x.2))

theorem ren_own {σ : Nat → Nat} (o : AObj) : (o.ren σ).own = o.own := by cases o <;> rfl
theorem ren_dead {σ : Nat → Nat} {o : AObj} : o.ren σ = .dead ↔ o = .dead := by cases o <;> simp [AObj.ren]

section
variable {ρ : Emb} {σ : Nat → Nat} {w : World} {L : Loc}

theorem MRel.unren {es : List (Bs × Value)} {es' : List MapEntry} (h : MRel ρ (es.map fun x => (x.1, Abs.ren σ x.2)) es') : MRel (fun i => ρ (σ i)) es es' := by
  refine ⟨by simpa using h.1, fun i x x' hx hx' => ?_⟩
  obtain ⟨h2, h3, h4⟩ := h.2 i (x.1, Abs.ren σ x.2) x' (by simp [hx]) hx'
  exact ⟨h2, h3.unren, h4⟩
theorem MRel.reren {es : List (Bs × Value)} {es' : List MapEntry} (h : MRel (fun i => ρ (σ i)) es es') : MRel ρ (es.map fun x => (x.1, Abs.ren σ x.2)) es' := by
  refine ⟨by simpa using h.1, fun i x x' hx hx' => ?_⟩
  rw [List.getElem?_map] at hx
  cases hy : es[i]? with
  | none => simp [hy] at hx
  | some y =>
    simp [hy] at hx; subst hx
    obtain ⟨h2, h3, h4⟩ := h.2 i y x' hy hx'
    exact ⟨h2, h3.reren, h4⟩

theorem ObjOk.unren {o : AObj} (h : ObjOk ρ w L (o.ren σ)) : ObjOk (fun i => ρ (σ i)) w L o := by
  cases o with
  | dead => trivial
  | blk c T =>
    obtain ⟨h1, h2, h3, c', h4, h5⟩ := h
    exact ⟨h1, h2, by rw [h3, renL_length], c', h4, h5.unren⟩
  | row sz c T =>
    rcases h with ⟨h1, h2⟩ | ⟨h1, h2, h3, c', h4, h5, h6⟩
    · refine .inl ⟨h1, ?_⟩
      cases c with
      | nil => rfl
      | cons => simp [renL] at h2
    · exact .inr ⟨h1, h2, h3, c', h4, h5, by rw [renL_length] at h6; exact h6.unren⟩
  | ro c =>
    rcases h with ⟨h1, h2⟩ | ⟨h1, c', T, fr, h4, h5⟩
    · refine .inl ⟨h1, ?_⟩
      cases c with
      | nil => rfl
      | cons => simp [renL] at h2
    · exact .inr ⟨h1, c', T, fr, h4, by rw [renL_length] at h5; exact h5.unren⟩
  | fro c =>
    obtain ⟨h1, h2, c', T, fr, h4, h5⟩ := h
    exact ⟨h1, h2, c', T, fr, h4, by rw [renL_length] at h5; exact h5.unren⟩
  | map es =>
    obtain ⟨h1, es', h4, h5⟩ := h
    exact ⟨h1, es', by simpa using h4, h5.unren⟩
theorem ObjOk.reren {o : AObj} (h : ObjOk (fun i => ρ (σ i)) w L o) : ObjOk ρ w L (o.ren σ) := by
  cases o with
  | dead => trivial
  | blk c T =>
    obtain ⟨h1, h2, h3, c', h4, h5⟩ := h
    exact ⟨h1, h2, by rw [h3, renL_length], c', h4, h5.reren⟩
  | row sz c T =>
    rcases h with ⟨h1, rfl⟩ | ⟨h1, h2, h3, c', h4, h5, h6⟩
    · exact .inl ⟨h1, rfl⟩
    · exact .inr ⟨h1, h2, h3, c', h4, h5, by rw [renL_length]; exact h6.reren⟩
  | ro c =>
    rcases h with ⟨h1, rfl⟩ | ⟨h1, c', T, fr, h4, h5⟩
    · exact .inl ⟨h1, rfl⟩
    · exact .inr ⟨h1, c', T, fr, h4, by rw [renL_length]; exact h5.reren⟩
  | fro c =>
    obtain ⟨h1, h2, c', T, fr, h4, h5⟩ := h
    exact ⟨h1, h2, c', T, fr, h4, by rw [renL_length]; exact h5.reren⟩
  | map es =>
    obtain ⟨h1, es', h4, h5⟩ := h
    exact ⟨h1, es', by simpa using h4, h5.reren⟩

/-- An own object, looked at only. -/
theorem ObjOk.borrow {o : AObj} {c : List Value} (h : ObjOk ρ w L o) (hc : o.cells = some c) : ObjOk ρ w L (.ro c) := by
  cases o <;> simp only [AObj.cells] at hc <;> cases hc
  · obtain ⟨h1, h2, h3, c', h4, h5⟩ := h
    refine .inr ⟨h1, c', _, _, h4, ?_⟩
    rw [h2, List.drop_zero, h5.length, List.take_length]; exact h5
  · rcases h with h | ⟨h1, h2, h3, c', h4, h5, h6⟩
    · exact .inl h
    · refine .inr ⟨h1, c', _, _, h4, ?_⟩
      rw [h2, List.drop_zero]; exact h6
  · exact h
  · obtain ⟨h1, h2, c', T, fr, h4, h5⟩ := h
    refine .inr ⟨h1, c', T, fr, h4, ?_⟩
    rw [h2, List.drop_zero]; exact h5
end

/-- Where the names of a smaller memory go: the first ones as listed, the others behind the big one. -/
def emb (τ : List Nat) (g : Nat) (i : Nat) : Nat := match τ[i]? with | some j => j | none => g + (i - τ.length)

theorem emb_in {τ : List Nat} {g i j : Nat} (h : τ[i]? = some j) : emb τ g i = j := by simp [emb, h]
theorem emb_out {τ : List Nat} {g i : Nat} (h : τ.length ≤ i) : emb τ g i = g + (i - τ.length) := by simp [emb, List.getElem?_eq_none h]

/-- Every object of the small memory is in the big one, under its name there. -/
def renOk (σ : Nat → Nat) (G : AHeap) : List Nat → AHeap → Prop
  | [], [] => True
  | t :: τ, o :: H => (match o with | .dead => t < G.length | o => G[t]? = some (o.ren σ)) ∧ renOk σ G τ H
  | _, _ => False

theorem renOk_get {σ : Nat → Nat} {G : AHeap} : ∀ {τ : List Nat} {H : AHeap}, renOk σ G τ H → τ.length = H.length ∧ ∀ (i : Nat) (o : AObj), H[i]? = some o → ∃ t, τ[i]? = some t ∧ t < G.length ∧ (o = AObj.dead ∨ G[t]? = some (o.ren σ))
  | [], [], _ => by simp
  | t :: τ, o :: H, h => by
    obtain ⟨h1, h2⟩ := renOk_get h.2
    refine ⟨by simp [h1], fun i x hx => ?_⟩
    cases i with
    | zero =>
      simp at hx; subst hx
      refine ⟨t, rfl, ?_⟩
      have h3 := h.1
      split at h3
      · exact ⟨h3, .inl rfl⟩
      · exact ⟨(List.getElem?_eq_some_iff.1 h3).1, .inr h3⟩
    | succ i => simp at hx ⊢; exact h2 i x hx
  | [], _ :: _, h => h.elim
  | _ :: _, [], h => h.elim

theorem nodup_get {τ : List Nat} (h : τ.Nodup) {i j t : Nat} (hi : τ[i]? = some t) (hj : τ[j]? = some t) : i = j := by
  have h1 := (List.getElem?_eq_some_iff.1 hi)
  have h2 := (List.getElem?_eq_some_iff.1 hj)
  obtain ⟨a, b⟩ := h1; obtain ⟨c, d⟩ := h2
  rw [List.nodup_iff_pairwise_ne, List.pairwise_iff_getElem] at h
  rcases Nat.lt_trichotomy i j with hlt | heq | hgt
  · exact absurd (b.trans d.symm) (h i j a c hlt)
  · exact heq
  · exact absurd (d.trans b.symm) (h j i c a hgt)

theorem Models.ren {ρ : Emb} {G H : AHeap} {Pr : Nat → Prop} {h0 : Keep} {w : World} {τ : List Nat} (hm : Models ρ G Pr h0 w) (hn : τ.Nodup) (h : renOk (emb τ G.length) G τ H) : Models (fun i => ρ (emb τ G.length i)) H Pr h0 w := by
  obtain ⟨hl, hg⟩ := renOk_get h
  constructor
  · intro i o ho
    obtain ⟨t, h1, h2, h3⟩ := hg i o ho
    obtain ⟨L, hL, hok⟩ := hm.ok t _ (List.getElem?_eq_getElem h2)
    refine ⟨L, by simp only [emb_in h1]; exact hL, ?_⟩
    rcases h3 with rfl | h3
    · trivial
    · rw [List.getElem?_eq_getElem h2] at h3
      simp only [Option.some.injEq] at h3
      rw [h3] at hok
      exact hok.unren
  · intro i hi
    show ρ (emb τ G.length i) = none
    rw [emb_out (by omega)]
    exact hm.bound _ (by omega)
  · intro i o L ho hown hL hab
    obtain ⟨t, h1, h2, h3⟩ := hg i o ho
    simp only [emb_in h1] at hL
    rcases h3 with rfl | h3
    · cases hown
    · exact hm.own t _ L h3 (by rw [ren_own]; exact hown) hL hab
  · intro i j oi oj Li Lj hij hi hj hown hd hLi hLj hai haj
    obtain ⟨t, h1, h2, h3⟩ := hg i oi hi
    obtain ⟨u, h4, h5, h6⟩ := hg j oj hj
    simp only [emb_in h1] at hLi
    simp only [emb_in h4] at hLj
    have htu : t ≠ u := fun he => hij (nodup_get hn h1 (he ▸ h4))
    rcases h3 with rfl | h3
    · cases hown
    · rcases h6 with rfl | h6
      · exact absurd rfl hd
      · exact hm.inj t u _ _ Li Lj htu h3 h6 (by rw [ren_own]; exact hown) (by rw [Ne, ren_dead]; exact hd) hLi hLj hai haj
  · exact hm.keep
  · intro i c L ho hL hab
    obtain ⟨t, h1, h2, h3⟩ := hg i _ ho
    simp only [emb_in h1] at hL
    rcases h3 with h3 | h3
    · cases h3
    · exact hm.ro t _ L h3 hL hab
  · exact hm.rop
  · exact hm.glob
  · exact hm.io

/-- The environment's values, under their names there. -/
def renE (σ : Nat → Nat) (e1 : Env) : Env → Prop
  | [] => True
  | (t, v) :: e => look e1 t = some (ren σ v) ∧ renE σ e1 e

theorem renE_look {σ : Nat → Nat} {e1 : Env} : ∀ {e : Env}, renE σ e1 e → ∀ {t : Nat} {v : Value}, look e t = some v → look e1 t = some (ren σ v)
  | (s, u) :: e, h, t, v, hv => by
    simp only [look] at hv
    split at hv
    · rename_i hs; subst hs; cases hv; exact h.1
    · exact renE_look h.2 hv

section
variable {P : Program} {hints : List String} {N k : Nat}

theorem StRel.ren {ρ : Emb} {Pr : Nat → Prop} {h0 : Keep} {e1 e : Env} {G H : AHeap} {a : Act} {w : World} {τ : List Nat} (hs : StRel N ρ Pr h0 e1 G a w) (hn : τ.Nodup) (h : renOk (emb τ G.length) G τ H) (he : renE (emb τ G.length) e1 e) :
    StRel N (fun i => ρ (emb τ G.length i)) Pr h0 e H a w :=
  ⟨⟨fun t v hv => let ⟨v', h1, h2⟩ := hs.env.tmps t _ (renE_look he hv); ⟨v', h1, h2.unren⟩, hs.env.defers⟩, hs.size, hs.mem.ren hn h⟩


/-- What is asked from a state told of under other names. -/
theorem SemW.ren {c : Code} {Q : APost} {e1 e : Env} {G H : AHeap} (τ : List Nat) (hn : τ.Nodup) (h : renOk (emb τ G.length) G τ H) (he : renE (emb τ G.length) e1 e) (hk : ∀ i, i < k → emb τ G.length i = i)
    (hw : SemW P N k c Q e H) : SemW P N k c Q e1 G := by
  intro ρ Pr h0 a w hs
  refine wp_mono (hw _ Pr h0 a w (hs.ren hn h he)) fun x a' w' ⟨ρ', e', H', h1, h2, h3⟩ => ⟨ρ', e', H', h1, h2, fun i hi => ?_⟩
  rw [h3 i hi]; simp only [hk i hi]

/-- The rest of the code, from a state told of under other names. -/
theorem sw_ren {c : ACode} {s : List Item} {Q : APost} {e1 e : Env} {G H : AHeap} (τ : List Nat) (hn : τ.Nodup) (h : renOk (emb τ G.length) G τ H) (he : renE (emb τ G.length) e1 e) (hk : ∀ i, i < k → emb τ G.length i = i)
    (hw : SW P hints N k (.code c :: s) Q e H) : SW P hints N k (.code c :: s) Q e1 G := by
  rw [SW_code] at *
  exact fun c' hc => (hw c' hc).ren τ hn h he hk
end
end Go.Abs
