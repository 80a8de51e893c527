/-
  The bridge: from a law's arguments as data to the abstract machine's call, and back.
-/
import Derived.Test.YthpclmlfmhjadaaFw28
import Derived.WideKeyArgs
import Derived.ChangeSlices
import Derived.SliceStrings
import Derived.ChangeShapes
import Derived.RowKit
import Derived.ChangeMaps5
set_option linter.unusedSectionVars false
set_option linter.unusedSimpArgs false
set_option linter.unusedVariables false
namespace Go.Abs
variable [Gl : Globals]

def ints (xs : List Int) : List Value := xs.map fun x => .int .i64 x
def strs (ts : List Bs) : List Value := ts.map fun t => .string (B t)
theorem ints_get {xs : List Int} {i : Nat} {x : Int} (h : xs[i]? = some x) : (ints xs)[i]? = some (.int .i64 x) := by simp [ints, h]
theorem strs_get {xs : List Bs} {i : Nat} {x : Bs} (h : xs[i]? = some x) : (strs xs)[i]? = some (.string (B x)) := by simp [strs, h]
theorem ints_len (xs : List Int) : (ints xs).length = xs.length := by simp [ints]
theorem strs_len (xs : List Bs) : (strs xs).length = xs.length := by simp [strs]

theorem ints_atoms : ∀ xs : List Int, (ints xs).all atom = true
  | [] => rfl
  | x :: xs => by
    have := ints_atoms xs
    simp only [ints, List.map_cons, List.all_cons, Bool.and_eq_true] at this ⊢
    exact ⟨rfl, this⟩
theorem strs_atoms : ∀ xs : List Bs, (strs xs).all atom = true
  | [] => rfl
  | x :: xs => by
    have := strs_atoms xs
    simp only [strs, List.map_cons, List.all_cons, Bool.and_eq_true] at this ⊢
    exact ⟨rfl, this⟩

theorem atoms_rel {ρ : Emb} : ∀ {l : List Value}, l.all atom = true → VsRel ρ l l
  | [], _ => .nil
  | v :: l, h => by
    simp only [List.all_cons, Bool.and_eq_true] at h
    exact .cons (.atom h.1) (atoms_rel h.2)

/-- A slice that came in: its cells. -/
def RoAt (W : World) (cs : List Value) (n : Nat) (v : Value) : Prop :=
  ∃ a c, v = .slice a n c ∧ n ≤ c ∧ ((n = 0 ∧ cs = []) ∨ ∃ b off cells T fr, a = some ⟨b, off, none⟩ ∧ W.heap[b]? = some (.cells cells T fr) ∧ VsRel (fun _ => none) cs ((cells.toList.drop off).take cs.length))

theorem roAt_cells {W : World} {a : Addr} {n c : Nat} {vs : List Value} (hc : n ≤ c) (h0 : n = 0 ↔ vs = []) (hat : vs.all atom = true) (h : ∀ i, i < vs.length → W.cell? (a.add i) = vs[i]?) : RoAt W vs n (.slice (some a) n c) := by
  refine ⟨_, _, rfl, hc, ?_⟩
  rcases Nat.eq_zero_or_pos n with hn | hn
  · exact .inl ⟨hn, h0.1 hn⟩
  cases vs with
  | nil => exact .inl ⟨h0.2 rfl, rfl⟩
  | cons v vs =>
    have h1 := h 0 (by simp)
    rw [Addr.add_zero'] at h1
    simp only [List.getElem?_cons_zero] at h1
    unfold World.cell? at h1
    split at h1
    · rename_i cells T fr hh
      split at h1
      · cases h1
      · rename_i hs
        obtain ⟨b, off, sp⟩ := a
        obtain rfl : sp = none := by cases sp <;> first | rfl | (simp at hs; done)
        refine .inr ⟨b, off, cells, T, fr, rfl, hh, ?_⟩
        have key : (cells.toList.drop off).take (v :: vs).length = v :: vs := by
          apply List.ext_getElem?
          intro i
          rcases Nat.lt_or_ge i (v :: vs).length with hi | hi
          · have h2 := h i hi
            rw [Addr.add_lit] at h2
            simp only [World.cell?, hh] at h2
            rw [List.getElem?_take_of_lt hi, List.getElem?_drop, ← h2]
            simp
          · rw [List.getElem?_eq_none hi, List.getElem?_eq_none (by simp only [List.length_take]; omega)]
        rw [key]
        exact atoms_rel hat
    · cases h1

section
variable {H : Type} {enc : TypeId × Value → H} {P : Program} {w : World} {base : Nat} {spare : Nat → Bool} {held : Bool}

theorem roAt_ints {r : Reach} {b0 : Nat} {t e : TypeId} {v : Value} {d : DataW H} {ps : List MemPlace} (ht : P.underlying t = some (.slice e)) (he : P.underlying e = some (.int .i64)) (hc : P.cellsOf e = 1)
    (hval : Value.okWide P w r b0 t v) (hd : DataW.Trod enc P w base spare held t v d ps) : ∃ xs : List Int, RoAt w (ints xs) xs.length v ∧ xs.length < 9223372036854775808 := by
  obtain ⟨a0, len0, cap0, rfl⟩ := WideShapes.okWide_slice ht hval
  obtain ⟨fuel, hd⟩ := hd
  have hm : maxLen < 9223372036854775808 := by decide
  rcases ChangeShapes.open_ints ht he hc hd with ⟨h1, _⟩ | ⟨a, len, cap, zs, h1, _, h3, h4, h5, _, h7, _⟩
  · simp [Value.cells] at h1
    obtain ⟨rfl, rfl, rfl⟩ := h1
    exact ⟨[], ⟨none, 0, rfl, Nat.le_refl _, .inl ⟨rfl, rfl⟩⟩, by simp⟩
  · simp [Value.cells] at h1
    obtain ⟨rfl, rfl, rfl⟩ := h1
    have hl : len0 ≤ zs.length := by rw [h5]; split <;> omega
    refine ⟨zs.take len0, ?_, by rw [List.length_take]; omega⟩
    have hlen : (zs.take len0).length = len0 := by rw [List.length_take]; omega
    rw [hlen]
    refine roAt_cells h3 (by rw [← List.length_eq_zero_iff, ints_len, hlen]) (ints_atoms _) fun i hi => ?_
    rw [ints_len, hlen] at hi
    rw [h7 i (by omega)]
    simp only [ints, List.getElem?_map, List.getElem?_take_of_lt hi]
    rw [List.getElem?_eq_getElem (by omega : i < zs.length)]
    simp [List.getD, List.getElem?_eq_getElem (by omega : i < zs.length)]

theorem roAt_strs {r : Reach} {b0 : Nat} {t e : TypeId} {v : Value} {d : DataW H} {ps : List MemPlace} (ht : P.underlying t = some (.slice e)) (he : P.underlying e = some .string) (hc : P.cellsOf e = 1)
    (hval : Value.okWide P w r b0 t v) (hd : DataW.Trod enc P w base spare held t v d ps) : ∃ xs : List Bs, RoAt w (strs xs) xs.length v ∧ xs.length < 9223372036854775808 ∧ ∀ s ∈ xs, s.length < 9223372036854775808 := by
  obtain ⟨a0, len0, cap0, rfl⟩ := WideShapes.okWide_slice ht hval
  obtain ⟨fuel, hd⟩ := hd
  have hm : maxLen < 9223372036854775808 := by decide
  rcases ChangeShapes.open_strings ht he hc hd with ⟨h1, _⟩ | ⟨a, len, cap, zs, h1, _, h3, h4, h5, _, h7, h8⟩
  · simp [Value.cells] at h1
    obtain ⟨rfl, rfl, rfl⟩ := h1
    exact ⟨[], ⟨none, 0, rfl, Nat.le_refl _, .inl ⟨rfl, rfl⟩⟩, by simp, by simp⟩
  · simp [Value.cells] at h1
    obtain ⟨rfl, rfl, rfl⟩ := h1
    have hl : len0 ≤ zs.length := by rw [h5]; split <;> omega
    refine ⟨(zs.take len0).map fun s => s.data.toList, ?_, by rw [List.length_map, List.length_take]; omega, fun s hs => ?_⟩
    · have hlen : (((zs.take len0).map fun s => s.data.toList) : List Bs).length = len0 := by rw [List.length_map, List.length_take]; omega
      rw [hlen]
      refine roAt_cells h3 (by rw [← List.length_eq_zero_iff, strs_len, hlen]) (strs_atoms _) fun i hi => ?_
      rw [strs_len, hlen] at hi
      rw [h7 i (by omega)]
      simp only [strs, List.getElem?_map, List.getElem?_take_of_lt hi]
      rw [List.getElem?_eq_getElem (by omega : i < zs.length)]
      simp [List.getD, List.getElem?_eq_getElem (by omega : i < zs.length), B]
    · obtain ⟨z, hz, rfl⟩ := List.mem_map.1 hs
      have := h8 z (List.mem_of_mem_take hz)
      have e : z.data.toList.length = z.size := rfl
      omega

theorem trodAll_stays (hl : laidOutB P = true) {W W' : World} (hk : ∀ b, b < W.heap.size → W'.heap[b]? = W.heap[b]?) : ∀ {ts : List TypeId} {vs : List Value} {ds : List (DataW H)} {ps : List MemPlace},
    (∀ t ∈ ts, P.readableRec t = true ∧ t < P.types.size) → DataW.TrodAll enc P W 0 (fun _ => true) true ts vs ds ps → (∀ x ∈ ps, x.block < W.heap.size) → DataW.TrodAll enc P W' 0 (fun b => decide (b < W.heap.size)) true ts vs ds ps
  | [], [], [], ps, _, h, _ => h
  | t :: ts, v :: vs, d :: ds, ps, ht, h, hlt => by
    obtain ⟨p, q, h1, h2, rfl⟩ := h
    refine ⟨p, q, ?_, trodAll_stays hl hk (fun t' ht' => ht t' (by simp [ht'])) h2 (fun x hx => hlt x (by simp [hx])), rfl⟩
    refine WideElems.Trod_stays hl (ht t (by simp)).1 (ht t (by simp)).2 h1 (fun x hx => ?_) (fun x hx => by simpa using hlt x (by simp [hx]))
    have hb := hlt x (by simp [hx])
    cases x with
    | cell b o => exact World.cell?_of_block (w := W) (hk b hb)
    | map b => exact hk b hb
  | [], [], _ :: _, _, _, h, _ => by cases h
  | [], _ :: _, _, _, _, h, _ => by cases h
  | _ :: _, [], _, _, _, h, _ => by cases h
  | _ :: _, _ :: _, [], _, _, h, _ => by cases h

theorem kept {w w' : World} (h1 : w'.os = w.os) (h2 : w'.output = w.output) (h : ∀ b, b < w.heap.size → w'.heap[b]? = w.heap[b]?) (may : MemPlace → Prop) : w.keptBut w' may := by
  refine ⟨h1, h2, fun i hi => ?_⟩
  rw [h i hi]
  cases hc : w.heap[i]? with
  | none => rfl
  | some o => cases o <;> first | exact ⟨rfl, rfl, rfl, fun _ _ => rfl⟩ | exact .inr ⟨rfl, rfl⟩ | rfl

/-- What a law's row asks behind a call that returned true and left all as it was. -/
theorem post_true {f : Func} {s : ChangeSpec} {W W' : World} {args : Array Value} {ds gs : List (DataW H)} {before : List MemPlace} {tb : TypeId}
    (hW : DataW.Whole enc P f.params.toList s.vars false W args.toList ds gs before) (hvars : s.vars = [])
    (hfn : s.fn H (ds ++ gs) = { results := [.lit (.bool true)], args := ds }) (hres : f.resultTypes = #[tb]) (hb : P.underlying tb = some .bool) (hl : laidOutB P = true)
    (hp : ∀ t ∈ f.params.toList, P.readableRec t = true ∧ t < P.types.size) (hlt : ∀ x ∈ before, x.block < W.heap.size) (ho : W'.os = W.os) (hout : W'.output = W.output) (hk : ∀ b, b < W.heap.size → W'.heap[b]? = W.heap[b]?) :
    s.post enc P f false true false false W args (.bool true) W' := by
  have hW' := hW
  obtain ⟨p, q, hA, hV, rfl, hfz, hnd⟩ := hW
  refine ⟨ds, gs, _, [], p, [], hW', ?_, ?_, ?_, kept ho hout hk _, fun h => by cases h⟩
  · rw [hfn, hres]; exact ChangeShapes.trodAll_mk1 (RowKit.shut_bool hb true)
  · rw [hfn]; exact trodAll_stays hl hk hp hA fun x hx => hlt x (by simp [hx])
  · rw [hfn, hvars]; rfl
end

/-- The memory that came in, as objects that are looked at. -/
theorem models_args {W : World} (hg : ∀ x ∈ Gl.tab, x.1 < W.heap.size ∧ ∃ o, W.heap[x.1]? = some o ∧ x.2 o) (l : List (List Value × Nat × Value)) (h : ∀ x ∈ l, RoAt W x.1 x.2.1 x.2.2) :
    ∃ ρ : Emb, Models ρ (l.map fun x => .ro x.1) (fun b => b < W.heap.size) ⟨fun b => W.heap[b]?, fun b => b < W.heap.size, W⟩ W ∧ ∀ (i : Nat) x, l[i]? = some x → VRel ρ (.slice (some ⟨i, 0, none⟩) x.2.1 ANY) x.2.2 := by
  have ex : ∀ x : List Value × Nat × Value, RoAt W x.1 x.2.1 x.2.2 → ∃ L : Loc, ObjOk (fun _ => none) W L (.ro x.1) ∧ (∀ ρ : Emb, ∀ i, ρ i = some L → VRel ρ (.slice (some ⟨i, 0, none⟩) x.2.1 ANY) x.2.2) := by
    rintro ⟨cs, n, v⟩ ⟨a, c, hv, hc, h⟩
    simp only at hv hc h
    subst hv
    rcases h with ⟨h1, h2⟩ | ⟨b, off, cells, T, fr, rfl, hh, hr⟩
    · subst h1; subst h2
      exact ⟨⟨true, 0, 0, 0, 0⟩, .inl ⟨rfl, rfl⟩, fun ρ i hi => .sliceA hi (fun h => by simp at h) hc⟩
    · exact ⟨⟨false, b, off, 0, 0⟩, .inr ⟨rfl, cells, T, fr, hh, hr⟩, fun ρ i hi => .sliceA hi (fun _ => ⟨rfl, rfl⟩) hc⟩
  have mk : ∃ Ls : List Loc, Ls.length = l.length ∧ ∀ (i : Nat) x, l[i]? = some x → ∃ L, Ls[i]? = some L ∧ ObjOk (fun _ => none) W L (.ro x.1) ∧ (∀ ρ : Emb, ∀ i, ρ i = some L → VRel ρ (.slice (some ⟨i, 0, none⟩) x.2.1 ANY) x.2.2) := by
    clear hg
    induction l with
    | nil => exact ⟨[], rfl, fun i x hx => by simp at hx⟩
    | cons y l ih =>
      obtain ⟨Ls, h1, h2⟩ := ih fun x hx => h x (by simp [hx])
      obtain ⟨L, h3, h4⟩ := ex y (h y (by simp))
      refine ⟨L :: Ls, by simp [h1], fun i x hx => ?_⟩
      cases i with
      | zero => simp at hx; subst hx; exact ⟨L, rfl, h3, h4⟩
      | succ i => simp at hx; simpa using h2 i x hx
  obtain ⟨Ls, hlen, hLs⟩ := mk
  have hle : Emb.le (fun _ => none) (fun i => Ls[i]?) := fun i L h => by cases h
  refine ⟨fun i => Ls[i]?, ?_, fun i x hx => ?_⟩
  · constructor
    · intro i o ho
      rw [List.getElem?_map] at ho
      cases hx : l[i]? with
      | none => simp [hx] at ho
      | some x =>
        simp [hx] at ho; subst ho
        obtain ⟨L, g1, g2, _⟩ := hLs i x hx
        exact ⟨L, g1, g2.mono hle fun _ => rfl⟩
    · intro i hi
      exact List.getElem?_eq_none (by simp at hi; omega)
    · intro i o L ho hown
      rw [List.getElem?_map] at ho
      cases hx : l[i]? with
      | none => simp [hx] at ho
      | some x => simp [hx] at ho; subst ho; cases hown
    · intro i j oi oj Li Lj _ hi _ hown
      rw [List.getElem?_map] at hi
      cases hx : l[i]? with
      | none => simp [hx] at hi
      | some x => simp [hx] at hi; subst hi; cases hown
    · exact fun b hb => ⟨rfl, hb⟩
    · intro i c L hi hL hab
      obtain ⟨x, hx⟩ : ∃ x, l[i]? = some x := by
        rw [List.getElem?_map] at hi
        cases hx : l[i]? with
        | none => simp [hx] at hi
        | some x => exact ⟨x, rfl⟩
      obtain ⟨L', g1, g2, _⟩ := hLs i x hx
      have : L = L' := Option.some.inj (hL.symm.trans g1)
      subst this
      exact g2.lt (by simp) hab
    · exact fun b hb => hb
    · exact fun x hx => hg x hx
    · exact ⟨rfl, rfl⟩
  · obtain ⟨L, g1, _, g3⟩ := hLs i x hx
    exact g3 _ i g1

/-- A law at the machine, as a call. -/
theorem law_calls {P : Program} {f : FuncId} {args absargs : List Value} {W : World} (hg : ∀ x ∈ Gl.tab, x.1 < W.heap.size ∧ ∃ o, W.heap[x.1]? = some o ∧ x.2 o) (l : List (List Value × Nat × Value)) (hl : ∀ x ∈ l, RoAt W x.1 x.2.1 x.2.2)
    (hrel : ∀ ρ : Emb, (∀ (i : Nat) x, l[i]? = some x → VRel ρ (.slice (some ⟨i, 0, none⟩) x.2.1 ANY) x.2.2) → VsRel ρ absargs args)
    (h : ACalls P f absargs (l.map fun x => .ro x.1) fun v _ => v = .bool true) :
    Calls P f ⟨args⟩ W fun e W' => e = .returned (.bool true) ∧ W'.os = W.os ∧ W'.output = W.output ∧ ∀ b, b < W.heap.size → W'.heap[b]? = W.heap[b]? := by
  obtain ⟨ρ, hm, hv⟩ := models_args hg l hl
  refine (h ρ _ _ W args (hrel ρ hv) hm).mono ?_
  rintro e W' ⟨v, v', ρ', H', rfl, rfl, hvr, hm, _⟩
  cases hvr
  exact ⟨rfl, hm.io.1, hm.io.2, fun b hb => (hm.keep b hb).1⟩
end Go.Abs
