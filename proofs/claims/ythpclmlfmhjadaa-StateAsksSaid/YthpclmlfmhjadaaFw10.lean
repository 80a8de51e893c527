/-
  The operations that touch memory are sound.
-/
import Derived.Test.YthpclmlfmhjadaaFw9
import Derived.Laws.AppendOwn
import Derived.Laws.IdiomStrings
import Derived.Laws.MakeOwn
set_option linter.unusedSectionVars false
set_option linter.unusedSimpArgs false
set_option linter.unusedVariables false
namespace Go.Abs
variable [Gl : Globals]
section
variable {P : Program} {ρ : Emb} {e : Env} {H : AHeap} {a : Act} {w : World} {Pr : Nat → Prop} {h0 : Keep} {C : Prop} {v : Value}
variable {pos : String} {dst : Option Tmp} {ty : TypeId} {after : Array Edge} {g : Option (Nat × Bool)} {H' : AHeap}

/-- The operation yields a value that is the abstract one's, and a world that the new abstract memory tells of. -/
def Does (P : Program) (ρ : Emb) (Pr : Nat → Prop) (h0 : Keep) (a : Act) (w : World) (o : Oper) (v : Value) (H' : AHeap) : Prop :=
  ∃ v' w' ρ', ((execOp a.eval o).run P w = .ok (.value v') w' ∨ ((execOp a.eval o).run P w = .ok .skip w' ∧ v' = undef)) ∧ ρ.le ρ' ∧ VRel ρ' v v' ∧ Models ρ' H' Pr h0 w'

theorem alloc_blk (hm : Models ρ H Pr h0 w) {c : List Value} {c' : Array Value} {T : TypeId} (hc : VsRel ρ c c'.toList) :
    ∃ ρ', ρ.le ρ' ∧ ρ' H.length = some ⟨false, w.heap.size, 0, c.length, 0⟩ ∧ Models ρ' (H ++ [.blk c T]) Pr h0 (w.alloc (.cells c' T)) := by
  have hl : ρ.le (ext ρ H.length ⟨false, w.heap.size, 0, c.length, 0⟩) := le_ext (hm.bound _ (Nat.le_refl _))
  exact ⟨_, hl, by simp, hm.alloc (fun _ => rfl) (fun _ h => by cases h) ⟨rfl, rfl, rfl, c', heap_alloc_new w _, hc.mono hl⟩⟩

theorem alloc_row (hm : Models ρ H Pr h0 w) {c : List Value} {c' : Array Value} {T : TypeId} {sz : Nat} (hc : VsRel ρ c (c'.toList.take c.length)) :
    ∃ ρ', ρ.le ρ' ∧ ρ' H.length = some ⟨false, w.heap.size, 0, c'.size, sz⟩ ∧ Models ρ' (H ++ [.row sz c T]) Pr h0 (w.alloc (.cells c' T)) := by
  have hl : ρ.le (ext ρ H.length ⟨false, w.heap.size, 0, c'.size, sz⟩) := le_ext (hm.bound _ (Nat.le_refl _))
  exact ⟨_, hl, by simp, hm.alloc (fun _ => rfl) (fun _ h => by cases h) (.inr ⟨rfl, rfl, rfl, c', heap_alloc_new w _, rfl, hc.mono hl⟩)⟩

theorem alloc_sound {t : TypeId} {i : TypeInfo} {z : Value} (hi : P.info? t = some i) (hz : i.zero = some z) (hzz : z.cells.toList.all (fun x => atom x || nilSlice x) = true)
    (hq : aeff (.alloc z.cells.toList t) e H = some (C, v, H')) (hm : Models ρ H Pr h0 w) : Does P ρ Pr h0 a w ⟨dst, .alloc t, ty, pos, after, g⟩ v H' := by
  simp only [aeff] at hq; cases hq
  obtain ⟨ρ', hl, hn, hM⟩ := alloc_blk (T := t) (c' := z.cells) hm (zeros_rel hzz)
  refine ⟨.pointer (some ⟨w.heap.size, 0, none⟩), _, ρ', .inl ?_, hl, .ptr (L := ⟨false, w.heap.size, 0, _, 0⟩) hn rfl, hM⟩
  simp [execOp, Instr.alloc, zeroValue, typeInfo, hi, hz, newVar, newRow]

theorem box_sound {t : TypeId} {x : Operand} (hq : aeff (.box t x) e H = some (C, v, H')) (he : ERel ρ e a) (hm : Models ρ H Pr h0 w) : Does P ρ Pr h0 a w ⟨dst, .box t x, ty, pos, after, g⟩ v H' := by
  simp only [aeff] at hq
  split at hq
  · rename_i u hu; cases hq
    obtain ⟨ρ', hl, hn, hM⟩ := alloc_blk (T := t) (c' := (a.eval x).cells) hm (vcells_rel (he.ev hu))
    refine ⟨.pointer (some ⟨w.heap.size, 0, none⟩), _, ρ', .inl ?_, hl, .ptr (L := ⟨false, w.heap.size, 0, _, 0⟩) hn rfl, hM⟩
    simp [execOp, Instr.box, newVar, newRow]
  · cases hq

theorem bslice_sound {t el : TypeId} {len : Nat} {i : TypeInfo} {z : Value} {parts : Array (Nat × Operand)} (hu : P.underlying t = some (.slice el)) (hi : P.info? el = some i) (hz : i.zero = some z) (hsm : len * i.size ≤ 16777216) (hlen : len ≤ 16777216)
    (hzz : (((Array.range (len * i.size)).map (z.cells[· % z.cells.size]!)).toList.all (fun x => atom x || nilSlice x)) = true)
    (hq : aeff (.bslice len ((Array.range (len * i.size)).map (z.cells[· % z.cells.size]!)).toList (parts.toList.map fun (k, x) => (k * i.size, i.size, x)) el) e H = some (C, v, H')) (he : ERel ρ e a) (hm : Models ρ H Pr h0 w) :
    Does P ρ Pr h0 a w ⟨dst, .buildSlice t len parts, ty, pos, after, g⟩ v H' := by
  simp only [aeff] at hq
  split at hq
  · rename_i ps hps
    split at hq
    · rename_i c hc; cases hq
      have hmap : parts.toList.mapM (fun (x : Nat × Operand) => ((fun k => some (k * i.size, i.size) : Nat → Option (Nat × Nat)) x.1).map fun (y : Nat × Nat) => (y.1, y.2, x.2)) = some (parts.toList.map fun (k, x) => (k * i.size, i.size, x)) := by
        generalize parts.toList = l
        induction l with
        | nil => rfl
        | cons x l ih => simp [List.mapM_cons] at ih ⊢; rw [ih]; simp
      obtain ⟨cells2, h1, h2⟩ := fill_rel he (fun k => some (k * i.size, i.size)) parts.toList hmap hps hc (zeros_rel hzz)
      obtain ⟨ρ', hl, hn, hM⟩ := alloc_blk (T := el) (c' := cells2) hm h2
      refine ⟨.slice (some ⟨w.heap.size, 0, none⟩) len len, _, ρ', .inl ?_, hl, .slice (L := ⟨false, w.heap.size, 0, _, 0⟩) hn rfl (by unfold HID; omega) (by unfold ANY; omega), hM⟩
      have hrun : (Instr.buildSlice t len (parts.map fun x => (x.1, a.eval x.2))).run P w = .ok (.slice (some ⟨w.heap.size, 0, none⟩) len len) (w.alloc (.cells cells2 el)) := by
        by_cases h0 : len * i.size = 0
        · have hsm' : ¬ 16777216 < len * i.size := by omega
          rw [h0] at h1
          simp only [Instr.buildSlice, Sem.run_bind, run_underlying hu, Result.andThen_ok, run_sizeOf' hi]
          rw [if_neg (by omega), if_pos h0]
          simp only [Sem.run_bind, Sem.run_pure, Result.andThen_ok]
          have hz0 : (Array.range 0).map ((#[] : Array Value)[· % (#[] : Array Value).size]!) = (Array.range 0).map (z.cells[· % z.cells.size]!) := by simp [Array.range_zero']
          rw [h0, hz0]
          simp only [Array.toList_map, h1]
          simp [newRow]
        · exact run_buildSlice w t el len _ cells2 i z hu hi hz (by omega) h0 (by simpa using h1)
      simp only [execOp]
      rw [Sem.run_bind, hrun]
      rfl
    · cases hq
  · cases hq

theorem putCells_eq (vs : List Value) : ∀ (c : List Value) (off : Nat), off + vs.length ≤ c.length → putCells c off vs = c.take off ++ vs ++ c.drop (off + vs.length) := by
  induction vs with
  | nil => intro c off h; simp [putCells]
  | cons v vs ih =>
    intro c off h
    simp only [List.length_cons] at h
    have hlt : off < c.length := by omega
    rw [putCells, ih _ _ (by simp; omega)]
    rw [List.drop_set_of_lt (by omega), List.take_set]
    rw [List.take_succ_eq_append_getElem hlt, List.set_append]
    simp only [List.length_take, Nat.min_eq_left (Nat.le_of_lt hlt), Nat.sub_self, List.set_cons_zero, List.length_cons, Nat.lt_irrefl, if_false]
    simp [show off + 1 + vs.length = off + (vs.length + 1) by omega]

theorem atom_one {v : Value} (h : atom v = true) : v.oneCell' = true := by
  cases v <;> first | rfl | (simp [atom] at h; done)
theorem one_rel : ∀ {l l' : List Value}, VsRel ρ l l' → l.all oneCell = true → ∀ v ∈ l', v.oneCell' = true
  | _, _, .nil, _, v, hv => by simp at hv
  | _, _, .cons h hs, hall, v, hv => by
    simp only [List.all_cons, Bool.and_eq_true] at hall
    rcases List.mem_cons.1 hv with rfl | hv
    · have h1 := hall.1
      cases h <;> first | rfl | (simp [oneCell] at h1; done) | exact atom_one (by assumption)
    · exact one_rel hs hall.2 v hv

theorem setRow_blk (w : World) {b : Nat} {c cs : Array Value} {T : TypeId} (h : w.heap[b]? = some (.cells c T)) : (w.setRow b cs).heap[b]? = some (.cells cs T) := setRow_heap w b c cs T (0, 0) h

/-- Cells of an object of one's own are written. -/
theorem put_sound (hm : Models ρ H Pr h0 w) {i : Nat} {o : AObj} {c : List Value} (ho : H[i]? = some o) (hown : o.rw = true) (hc : o.cells = some c) {L : Loc} (hL : ρ i = some L) (hab : L.abs = false)
    {off : Nat} {vs vs' : List Value} (hv : VsRel ρ vs vs') (hone : vs.all oneCell = true) (hfit : off + vs.length ≤ c.length) :
    ∃ w', (storeCells ⟨L.blk, L.base + off, none⟩ vs').run P w = .ok () w' ∧ Models ρ (H.set i (o.setCells (putCells c off vs))) Pr h0 w' := by
  obtain ⟨L', hL', hok⟩ := hm.ok i o ho
  rw [hL] at hL'; cases hL'
  have hlen := hv.length
  cases o with
  | dead => cases hown
  | ro c => cases hown
  | fro c => cases hown
  | map es => cases hc
  | blk c0 T =>
    cases hc
    obtain ⟨_, hb, hcap, c', hh, hr⟩ := hok
    have hsz : c'.size = c.length := by have := hr.length; simpa using this.symm
    refine ⟨_, run_storeCells_atF P L.blk (L.base + off) T (0, 0) vs' 0 c' w hh (Nat.zero_le _) (by omega) (one_rel hv hone), ?_⟩
    refine hm.change ho rfl rfl hL (w' := w.setRow L.blk _) ⟨hab, hb, by rw [hcap, putCells_length], _, setRow_blk w hh, ?_⟩ (fun b hb' => setRow_other w L.blk b _ (by rcases hb' with h | h; exact absurd h (by rw [hab]; simp); exact h)) (by simp) ⟨rfl, rfl⟩
    have h1 := hv.putCells off hr
    rw [putCells_eq vs' c'.toList off (by simp; omega)] at h1
    simpa [hb] using h1
  | row sz c0 T =>
    cases hc
    rcases hok with ⟨h, _⟩ | ⟨_, hb, hs, c', hh, hcap, hr⟩
    · rw [h] at hab; cases hab
    · have hle : c.length ≤ c'.size := by have := hr.length; rw [List.length_take] at this; simp at this; omega
      refine ⟨_, run_storeCells_atF P L.blk (L.base + off) T (0, 0) vs' 0 c' w hh (Nat.zero_le _) (by omega) (one_rel hv hone), ?_⟩
      refine hm.change ho rfl rfl hL (w' := w.setRow L.blk _) (.inr ⟨hab, hb, hs, _, setRow_blk w hh, ?_, ?_⟩) (fun b hb' => setRow_other w L.blk b _ (by rcases hb' with h | h; exact absurd h (by rw [hab]; simp); exact h)) (by simp) ⟨rfl, rfl⟩
      · simp [hb, hcap]; omega
      · have h1 := hv.putCells off hr
        rw [putCells_eq vs' _ off (by simp; omega)] at h1
        rw [putCells_length]
        simp only [hb, Nat.zero_add, Nat.add_zero]
        have e1 : ((c'.toList.take off ++ vs' ++ c'.toList.drop (off + vs'.length)).take c.length) = (c'.toList.take c.length).take off ++ vs' ++ (c'.toList.take c.length).drop (off + vs'.length) := by
          rw [List.take_append, List.take_append]
          simp only [List.take_take, List.length_append, List.length_take, Array.length_toList, List.drop_take]
          rw [Nat.min_eq_left (show off ≤ c'.size by omega)]
          rw [show min c.length off = off by omega, show min off c.length = off by omega]
          rw [List.take_of_length_le (show vs'.length ≤ c.length - off by omega), Nat.sub_add_eq]
        rw [e1]
        exact h1

theorem store_sound {t : TypeId} {i : TypeInfo} {x y : Operand} (hi : P.info? t = some i) (hq : aeff (.store i.size x y) e H = some (C, v, H')) (hC : C) (he : ERel ρ e a) (hm : Models ρ H Pr h0 w) :
    Does P ρ Pr h0 a w ⟨dst, .store t x y, ty, pos, after, g⟩ v H' := by
  simp only [aeff] at hq
  split at hq
  · rename_i b off u hx hy
    split at hq
    · rename_i o ho
      split at hq
      · rename_i hown
        split at hq
        · rename_i c hc; cases hq
          obtain ⟨h1, h2, h3⟩ := hC
          obtain ⟨L, hL, hab, hxv⟩ := ev_ptr he hx
          have hv := vcells_rel (he.ev hy)
          have hsz : (a.eval y).cells.size = i.size := by have := hv.length; simp at this; omega
          obtain ⟨w', hrun, hM⟩ := put_sound (P := P) (off := off) hm ho hown hc hL hab hv h3 (by simp; omega)
          refine ⟨undef, w', ρ, .inr ⟨?_, rfl⟩, Emb.le_refl ρ, .tuple .nil, hM⟩
          simp only [execOp, hxv, Instr.storeAt, Instr.sureAddr, storeVar, Sem.run_bind, Sem.run_pure, Result.andThen_ok, run_sizeOf' hi, hsz, ne_eq, not_true_eq_false, if_false, hrun]
        · cases hq
      · cases hq
    · cases hq
  · cases hq

theorem run_app_grow {t u el e2 : TypeId} {i : TypeInfo} {z : Value} (ht : P.underlying t = some (.slice el)) (hu : P.underlying u = some (.slice e2)) (hi : P.info? el = some i) (hz : i.zero = some z) (ty : TypeId)
    {p q : Option Addr} {sLen sCap n c : Nat} {olds news : Array Value} (hfo : (Builtin.firstCells i.size sLen (.slice p sLen sCap)).run P w.drew = .ok olds w.drew) (hf : (Builtin.firstCells i.size n (.slice q n c)).run P w.drew = .ok news w.drew)
    (hg : sCap < sLen + n) (h63 : ((sLen + n : Nat) : Int) ≤ 9223372036854775807) (hfit : Builtin.nextslicecap (sLen + n) sCap * i.bytes ≤ 281474976710656) :
    (Builtin.append_ #[t, u] ty #[.slice p sLen sCap, .slice q n c]).run P w =
      .ok (.slice (some ⟨w.heap.size, 0, none⟩) (sLen + n) (grownCap w (sLen + n) sCap el))
        (w.drew.alloc (.cells (olds ++ news ++ Builtin.zeroCells z.cells (grownCap w (sLen + n) sCap el - (sLen + n))) el)) := by
  have hn : ¬ (sLen + n ≤ sCap) := by omega
  have h63' : ¬ (9223372036854775807 < ((sLen : Int) + (n : Int))) := by omega
  have h48' : ¬ (281474976710656 < Builtin.nextslicecap (sLen + n) sCap * i.bytes) := by omega
  simp [Builtin.append_, run_underlying ht, run_underlying hu, sizeOf, typeInfo, zeroValue, hi, hz, Builtin.lenOf, hn, h63', h48', Question.forced, hf, hfo, newRow, grownCap]

theorem run_app_room {t u el e2 : TypeId} {i : TypeInfo} (ht : P.underlying t = some (.slice el)) (hu : P.underlying u = some (.slice e2)) (hi : P.info? el = some i) (ty : TypeId)
    {p q : Option Addr} {sLen sCap n c : Nat} {news : Array Value} (hf : (Builtin.firstCells i.size n (.slice q n c)).run P w = .ok news w) (hg : sLen + n ≤ sCap) {w' : World}
    (hst : ∀ A, p = some A → (storeCells (A.add (sLen * i.size)) news.toList).run P w = .ok () w') (hno : p = none → w' = w) :
    (Builtin.append_ #[t, u] ty #[.slice p sLen sCap, .slice q n c]).run P w = .ok (.slice p (sLen + n) sCap) w' := by
  cases p with
  | none =>
    have := hno rfl; subst this
    simp [Builtin.append_, run_underlying ht, run_underlying hu, sizeOf, typeInfo, hi, Builtin.lenOf, hg, hf]
  | some A =>
    have h1 := hst A rfl
    simp [Builtin.append_, run_underlying ht, run_underlying hu, sizeOf, typeInfo, hi, Builtin.lenOf, hg, hf, h1]

theorem shows_cells {sz : Nat} {xv xv' : Value} {l : List Value} (h : Shows ρ w sz xv xv' l) : ∃ p q n c c' l', xv = .slice q n c ∧ xv' = .slice p n c' ∧ VsRel ρ l l' ∧ l'.length = n * sz ∧
    ∀ w2 : World, (∀ x, w2.cell? x = w.cell? x) → (Builtin.firstCells sz n (.slice p n c')).run P w2 = .ok l'.toArray w2 := by
  obtain ⟨p, q, n, c, c', h1, h2, l', h3, h4, h5⟩ := h
  refine ⟨p, q, n, c, c', l', h1, h2, h3, h4, fun w2 hw2 => ?_⟩
  cases p with
  | none =>
    have : n = 0 := by rcases h5 with h | ⟨_, _, h, _⟩; exact h; cases h
    subst this
    have : l' = [] := by cases l'; rfl; simp at h4
    subst this
    simp [Builtin.firstCells]
  | some A =>
    refine run_firstCells_some w2 sz n A n c' l' h4 (fun j v hv => ?_)
    rw [hw2]
    rcases h5 with h | ⟨b, o, hA, h6⟩
    · subst h; have : l' = [] := by cases l'; rfl; simp at h4
      subst this; simp at hv
    · cases hA; rw [Addr.add_mid]; exact h6 j v hv

theorem Models.drew (hm : Models ρ H Pr h0 w) : Models ρ H Pr h0 w.drew := by
  refine ⟨fun i o ho => ?_, hm.bound, hm.own, hm.inj, hm.keep, hm.ro, hm.rop, hm.glob, hm.io⟩
  obtain ⟨L, hL, hok⟩ := hm.ok i o ho
  exact ⟨L, hL, hok.mono (Emb.le_refl ρ) fun _ => rfl⟩

/-- A grown array behind an append. -/
theorem grown_sound (hm : Models ρ H Pr h0 w) {sz need cap : Nat} {cs ys : List Value} {olds news : List Value} {z : Array Value} {T : TypeId} (ho : VsRel ρ cs olds) (hn : VsRel ρ ys news)
    (hz : z.size = sz) (hlen : olds.length + news.length = need * sz) (hcap : need ≤ cap) :
    ∃ ρ', ρ.le ρ' ∧ VRel ρ' (.slice (some ⟨H.length, 0, none⟩) need HID) (.slice (some ⟨w.heap.size, 0, none⟩) need cap) ∧
      Models ρ' (H ++ [.row sz (cs ++ ys) T]) Pr h0 (w.drew.alloc (.cells (olds.toArray ++ news.toArray ++ Builtin.zeroCells z (cap - need)) T)) := by
  have hsize : (olds.toArray ++ news.toArray ++ Builtin.zeroCells z (cap - need)).size = cap * sz := by
    simp only [Array.size_append, List.size_toArray, size_zeroCells, hz, hlen, ← Nat.add_mul]
    rw [show need + (cap - need) = cap by omega]
  have hrel : VsRel ρ (cs ++ ys) ((olds.toArray ++ news.toArray ++ Builtin.zeroCells z (cap - need)).toList.take (cs ++ ys).length) := by
    have h1 := ho.append hn
    have h2 : (cs ++ ys).length = (olds ++ news).length := h1.length
    rw [h2]
    simp only [Array.toList_append]
    rw [List.take_append_of_le_length (by simp), List.take_of_length_le (by simp)]
    exact h1
  obtain ⟨ρ', hl, hn', hM⟩ := alloc_row (T := T) (sz := sz) hm.drew hrel
  refine ⟨ρ', hl, ?_, hM⟩
  refine .sliceH (L := ⟨false, w.heap.size, 0, _, sz⟩) hn' rfl ?_
  rw [hsize]; simp

theorem app_sound {t u el e2 : TypeId} {i : TypeInfo} {z : Value} {x y : Operand} {inpl : Bool} {c : Call} (hcal : c.callee = .builtin .append) (hty : c.argTypes.toList = [t, u]) (hargs : c.args.toList = [x, y])
    (ht : P.underlying t = some (.slice el)) (hu : P.underlying u = some (.slice e2)) (hi : P.info? el = some i) (hz : i.zero = some z) (hsz : i.size ≠ 0) (hzz : z.cells.size = i.size)
    (hq : aeff (.app inpl i.size i.bytes el x y) e H = some (C, v, H')) (hC : C) (he : ERel ρ e a) (hm : Models ρ H Pr h0 w) :
    Does P ρ Pr h0 a w ⟨dst, .call c, ty, pos, after, g⟩ v H' := by
  obtain ⟨cal, ⟨args⟩, ⟨tys⟩⟩ := c
  simp only at hcal hty hargs; subst hcal hty hargs
  have fin : ∀ {v' w' ρ'}, (Builtin.append_ #[t, u] ty #[a.eval x, a.eval y]).run P w = .ok v' w' → ρ.le ρ' → VRel ρ' v v' → Models ρ' H' Pr h0 w' →
      Does P ρ Pr h0 a w ⟨dst, .call { callee := .builtin .append, args := ⟨[x, y]⟩, argTypes := ⟨[t, u]⟩ }, ty, pos, after, g⟩ v H' := by
    intro v' w' ρ' h1 h2 h3 h4
    refine ⟨v', w', ρ', .inl ?_, h2, h3, h4⟩
    simp [execOp, resolve, invoke, builtin, h1]
  simp only [aeff] at hq
  split at hq
  · rename_i xv yv hx hy
    split at hq
    · cases hq
    · rename_i cy m ys hys
      split at hys
      · rename_i qa m' cc
        split at hys
        · rename_i c1 l1 hs; cases hys
          have hxr := he.ev hx
          have hyr := he.ev hy
          -- what is appended
          have src : cy → ∃ p c' ys', a.eval y = .slice p m c' ∧ VsRel ρ ys ys' ∧ ys'.length = m * i.size ∧
              ∀ w2 : World, (∀ x, w2.cell? x = w.cell? x) → (Builtin.firstCells i.size m (.slice p m c')).run P w2 = .ok ys'.toArray w2 := by
            intro hcy
            obtain ⟨p, q, n, c, c', l', h1, h2, h3, h4, h5⟩ := shows_cells (P := P) (slice_rel hm hs hcy hyr)
            cases h1
            exact ⟨p, c', l', h2, h3, h4, h5⟩
          generalize hyv : a.eval y = yv' at *
          generalize hxv : a.eval x = xv' at *
          split at hq
          · -- nil
            cases hq
            obtain ⟨hcy, hb, hb2⟩ := hC
            obtain ⟨p, c', ys', rfl, hyr', hyl, hfirst⟩ := src hcy
            cases hxr with
            | atom h => simp [atom] at h
            | sliceN =>
              rename_i pa
              by_cases hm0 : m = 0
              · subst hm0
                have hy0 : ys' = [] := by cases ys'; rfl; simp at hyl
                subst hy0
                cases hyr'
                refine fin (run_app_room (w' := w) ht hu hi ty (hfirst w fun _ => rfl) (by simp) (fun A _ => by simp [storeCells]) (fun _ => rfl)) (le_ext (L := ⟨true, 0, 0, 0, 0⟩) (hm.bound _ (Nat.le_refl _))) (.sliceE (L := ⟨true, 0, 0, 0, 0⟩) (by simp) rfl) ?_
                exact hm.push (.inl ⟨rfl, rfl⟩) (fun _ _ _ _ _ _ _ => rfl) (fun h => by cases h) (fun _ h => by cases h) (fun _ _ => rfl) (Nat.le_refl _) ⟨rfl, rfl⟩
              · have hfo : (Builtin.firstCells i.size 0 (.slice pa 0 0)).run P w.drew = .ok (#[] : Array Value) w.drew := by
                  cases pa <;> simp [Builtin.firstCells, loadCells, loadCellsFrom]
                obtain ⟨ρ', hl, hv, hM⟩ := grown_sound (T := el) (sz := i.size) (need := 0 + m) (cap := grownCap w (0 + m) 0 el) hm (.nil) hyr' (z := z.cells) hzz (by simp [hyl]) (grownCap_ge w _ _ _)
                simp only [Nat.zero_add] at hv hM
                refine fin (run_app_grow ht hu hi hz ty (olds := ([] : List Value).toArray) hfo (hfirst w.drew fun _ => rfl) (by omega) (by omega) (growslice_fits (by omega) (by simp; omega))) hl (by simpa using hv) (by simpa using hM)
          · rename_i bi off n cp
            split at hq
            · -- a row
              rename_i sz' cs T' hrow
              split at hq
              · -- in its place
                cases hq
                obtain ⟨hcy, rfl, rfl, rfl, rfl, hpos, hfit, hone⟩ := hC
                obtain ⟨p, c', ys', rfl, hyr', hyl, hfirst⟩ := src hcy
                obtain ⟨L, hL, hok⟩ := hm.ok bi _ hrow
                cases hxr with
                | atom h => simp [atom] at h
                | slice _ _ hne => exact absurd rfl hne
                | sliceE hL' hab =>
                  rw [hL'] at hL; cases hL
                  rcases hok with ⟨_, rfl⟩ | ⟨h4, _⟩
                  · simp at hpos
                  · rw [hab] at h4; cases h4
                | sliceH hL' hab hcap =>
                  rename_i cp' L'
                  rw [hL'] at hL; cases hL
                  rcases hok with ⟨h4, _⟩ | ⟨_, hb, hs, c2, hheap, hcap2, hrel⟩
                  · rw [hab] at h4; cases h4
                  · have hle : cs.length ≤ L.cap := by have := hrel.length; rw [List.length_take] at this; rw [hcap2]; simp at this; omega
                    have hcc : n + m ≤ cp' := by
                      rw [hs] at hcap
                      have : (n + m) * i.size ≤ cp' * i.size := by omega
                      exact Nat.le_of_mul_le_mul_right this (by omega)
                    obtain ⟨w', hrun, hM⟩ := put_sound (P := P) (off := n * i.size) hm hrow rfl rfl hL' hab hyr' hone (by rw [hyr'.length, hyl, ← Nat.add_mul]; exact hfit)
                    refine fin (run_app_room (w' := w') ht hu hi ty (hfirst w fun _ => rfl) hcc (fun A hA => ?_) (fun h => by cases h)) (Emb.le_refl ρ) (.sliceH hL' hab hcap) hM
                    cases hA
                    rw [add_at, Nat.add_zero]; exact hrun
              · -- moved
                rename_i hinpl
                cases hq
                obtain ⟨hcy, rfl, rfl, rfl, rfl, hfull, hb1, hb2, hone⟩ := hC
                obtain ⟨p, c', ys', rfl, hyr', hyl, hfirst⟩ := src hcy
                obtain ⟨L, hL, hok⟩ := hm.ok bi _ hrow
                have hlt : bi < H.length := (List.getElem?_eq_some_iff.1 hrow).1
                have hlen : (H.set bi .dead).length = H.length := by simp
                have hk := hm.kill bi
                cases hxr with
                | atom h => simp [atom] at h
                | slice _ _ hne => exact absurd rfl hne
                | sliceE hL' hab =>
                  rw [hL'] at hL; cases hL
                  rcases hok with ⟨habs, rfl⟩ | ⟨h4, _⟩
                  · rename_i pa
                    by_cases hm0 : m = 0
                    · subst hm0
                      have hy0 : ys' = [] := by cases ys'; rfl; simp at hyl
                      subst hy0
                      cases hyr'
                      refine fin (run_app_room (w' := w) ht hu hi ty (hfirst w fun _ => rfl) (by simp) (fun A _ => by simp [storeCells]) (fun _ => rfl)) (le_ext (n := (H.set bi .dead).length) (L := ⟨true, 0, 0, 0, 0⟩) (hk.bound _ (Nat.le_refl _))) (.sliceE (L := ⟨true, 0, 0, 0, 0⟩) (by simp [ext]) rfl) ?_
                      exact hk.push (.inl ⟨rfl, rfl⟩) (fun _ _ _ _ _ _ _ => rfl) (fun h => by cases h) (fun _ h => by cases h) (fun _ _ => rfl) (Nat.le_refl _) ⟨rfl, rfl⟩
                    · have hfo : (Builtin.firstCells i.size 0 (.slice pa 0 0)).run P w.drew = .ok (#[] : Array Value) w.drew := by
                        cases pa <;> simp [Builtin.firstCells, loadCells, loadCellsFrom]
                      obtain ⟨ρ', hl, hv, hM⟩ := grown_sound (T := el) (sz := i.size) (need := 0 + m) (cap := grownCap w (0 + m) 0 el) hk (.nil) hyr' (z := z.cells) hzz (by simp [hyl]) (grownCap_ge w _ _ _)
                      rw [hlen] at hv
                      exact fin (run_app_grow ht hu hi hz ty (olds := ([] : List Value).toArray) hfo (hfirst w.drew fun _ => rfl) (by omega) (by omega) (growslice_fits (by omega) (by omega))) hl hv hM
                  · rw [hab] at h4; cases h4
                | sliceH hL' hab hcap =>
                  rename_i cp' L'
                  rw [hL'] at hL; cases hL
                  rcases hok with ⟨h4, _⟩ | ⟨_, hb, hs, c2, hheap, hcap2, hrel⟩
                  · rw [hab] at h4; cases h4
                  · have hle : cs.length ≤ L.cap := by have := hrel.length; rw [List.length_take] at this; rw [hcap2]; simp at this; omega
                    by_cases hroom : n + m ≤ cp'
                    · have hnp : ¬ Pr L.blk := hm.own bi _ L hrow rfl hL' hab
                      have hne : ∀ k x M, (H.set bi .dead)[k]? = some x → x ≠ .dead → ρ k = some M → M.abs = false → M.blk ≠ L.blk := by
                        intro k x M hx hd hM hMa
                        by_cases hk : bi = k
                        · subst hk; rw [List.getElem?_set_self hlt] at hx; cases hx; exact absurd rfl hd
                        · rw [List.getElem?_set_ne hk] at hx
                          exact fun heq => hm.inj bi k _ x L M hk hrow hx rfl hd hL' hM hab hMa heq.symm
                      have hspace : n * i.size + ys'.length ≤ c2.size := by
                        rw [hyl, ← Nat.add_mul, ← hcap2, ← hcap, hb, hs]
                        have := Nat.mul_le_mul_right i.size hroom
                        omega
                      have hrun := run_storeCells_atF P L.blk (n * i.size) el (0, 0) ys' 0 c2 w hheap (Nat.zero_le _) (by omega) (one_rel hyr' hone)
                      have hl := le_ext (L := L) (hk.bound _ (Nat.le_refl (H.set bi .dead).length))
                      refine fin (w' := w.setRow L.blk (c2.toList.take (n * i.size + 0) ++ ys' ++ c2.toList.drop (n * i.size + 0 + ys'.length)).toArray) (run_app_room ht hu hi ty (hfirst w fun _ => rfl) hroom (fun A hA => ?_) (fun h => by cases h)) hl ?_
                        (hk.push (L := L) (.inr ⟨hab, hb, hs, _, setRow_blk w hheap, ?_, ?_⟩) (fun k x M hx hd hM hMa => setRow_other w L.blk _ _ (hne k x M hx hd hM hMa)) (fun _ _ => ⟨hnp, hne⟩) (fun _ h => by cases h) (fun b hb' => setRow_other w L.blk b _ (fun h => hnp (h ▸ hb'))) (by simp) ⟨rfl, rfl⟩)
                      · cases hA
                        rw [add_at, hb]; simp only [Nat.zero_add]; exact hrun
                      · rw [← hlen, ← (show L.base = 0 from hb)]
                        refine .sliceH (by simp) hab ?_
                        rw [hb] at hcap ⊢; exact hcap
                      · simp; rw [hcap2]; omega
                      · have h1 := (hrel.append hyr').mono hl
                        have h2 : n * i.size = cs.length := hfull
                        simp only [Nat.add_zero]
                        have e1 : (c2.toList.take (n * i.size) ++ ys' ++ c2.toList.drop (n * i.size + ys'.length)).take (cs ++ ys).length = c2.toList.take cs.length ++ ys' := by
                          have : (cs ++ ys).length = (c2.toList.take (n * i.size) ++ ys').length := by
                            simp only [List.length_append, hyr'.length, List.length_take, Array.length_toList]; omega
                          rw [this, List.take_append_of_le_length (Nat.le_refl _), List.take_length, h2]
                        rw [e1]; exact h1
                    · obtain ⟨olds, ho1, ho2, ho3⟩ := range_rel hm (show cellsOf H bi = some cs by simp [cellsOf, hrow, AObj.cells]) hL' hab (off := 0) (n := n * i.size) (by omega)
                      rw [List.drop_zero, hfull, List.take_length] at ho1
                      have hfo : (Builtin.firstCells i.size n (.slice (some ⟨L.blk, L.base + 0, none⟩) n cp')).run P w.drew = .ok olds.toArray w.drew :=
                        run_firstCells_some w.drew i.size n _ n cp' olds ho2 (fun j v hv => by rw [add_at]; exact ho3 j v hv)
                      obtain ⟨ρ', hl, hv, hM⟩ := grown_sound (T := el) (sz := i.size) (need := n + m) (cap := grownCap w (n + m) cp' el) hk ho1 hyr' (z := z.cells) hzz (by rw [ho2, hyl, Nat.add_mul]) (grownCap_ge w _ _ _)
                      rw [hlen] at hv
                      exact fin (run_app_grow ht hu hi hz ty hfo (hfirst w.drew fun _ => rfl) (by omega) (by omega) (growslice_fits (by omega) (by omega))) hl hv hM
            · -- a literal's array
              rename_i cs T' hrow
              split at hq
              · rename_i hm0; cases hq
                obtain ⟨hcy, rfl, rfl, rfl, rfl, hfull, hb2⟩ := hC
                obtain ⟨p, c', ys', rfl, hyr', hyl, hfirst⟩ := src hcy
                subst hm0
                have hy0 : ys' = [] := by cases ys'; rfl; simp at hyl
                subst hy0
                have hne0 : cp ≠ HID := by unfold HID; omega
                have hne1 : cp ≠ ANY := by unfold ANY; omega
                cases hxr with
                | atom h => simp [atom] at h
                | sliceH => exact absurd rfl hne0
                | sliceA => exact absurd rfl hne1
                | slice hL' hab hne =>
                  refine fin (run_app_room (w' := w) ht hu hi ty (hfirst w fun _ => rfl) (by simp) (fun A _ => by simp [storeCells]) (fun h => by cases h)) (Emb.le_refl ρ) ?_ hm
                  have h9 := VRel.slice (off := 0) (n := cp) (c := cp) hL' hab hne0 hne1
                  simp only [Nat.add_zero] at h9 ⊢
                  exact h9
              rename_i hm0
              cases hq
              obtain ⟨hcy, rfl, rfl, rfl, rfl, hfull, hb1, hb2⟩ := hC
              obtain ⟨p, c', ys', rfl, hyr', hyl, hfirst⟩ := src hcy
              obtain ⟨L, hL, hok⟩ := hm.ok bi _ hrow
              have hlt : bi < H.length := (List.getElem?_eq_some_iff.1 hrow).1
              have hlen : (H.set bi .dead).length = H.length := by simp
              have hk := hm.kill bi
              have hne0 : cp ≠ HID := by unfold HID; omega
              have hne1 : cp ≠ ANY := by unfold ANY; omega
              cases hxr with
              | atom h => simp [atom] at h
              | sliceH => exact absurd rfl hne0
              | sliceA => exact absurd rfl hne1
              | slice hL' hab hne =>
                rw [hL'] at hL; cases hL
                obtain ⟨_, hb, hcap, c2, hheap, hrel⟩ := hok
                obtain ⟨olds, ho1, ho2, ho3⟩ := range_rel hm (show cellsOf H bi = some cs by simp [cellsOf, hrow, AObj.cells]) hL' hab (off := 0) (n := cp * i.size) (by omega)
                rw [List.drop_zero, hfull, List.take_length] at ho1
                have hfo : (Builtin.firstCells i.size cp (.slice (some ⟨L.blk, L.base + 0, none⟩) cp cp)).run P w.drew = .ok olds.toArray w.drew :=
                  run_firstCells_some w.drew i.size cp _ cp cp olds ho2 (fun j v hv => by rw [add_at]; exact ho3 j v hv)
                obtain ⟨ρ', hl, hv, hM⟩ := grown_sound (T := el) (sz := i.size) (need := cp + m) (cap := grownCap w (cp + m) cp el) hk ho1 hyr' (z := z.cells) hzz (by rw [ho2, hyl, Nat.add_mul]) (grownCap_ge w _ _ _)
                rw [hlen] at hv
                exact fin (run_app_grow ht hu hi hz ty hfo (hfirst w.drew fun _ => rfl) (by omega) (by omega) (growslice_fits (by omega) (by omega))) hl hv hM
            · cases hq
          · cases hq
        · cases hys
      · cases hys
  · cases hq

theorem s2b_sound {s d el : TypeId} {x : Operand} (hs : P.underlying s = some .string) (hd : P.underlying d = some (.slice el)) (hel : P.underlying el = some (.int .u8))
    (hq : aeff (.s2b x) e H = some (C, v, H')) (he : ERel ρ e a) (hm : Models ρ H Pr h0 w) : Does P ρ Pr h0 a w ⟨dst, .convert s d x, ty, pos, after, g⟩ v H' := by
  simp only [aeff] at hq
  split at hq
  · rename_i b hb; cases hq
    have hl : ρ.le (ext ρ H.length ⟨false, w.heap.size, 0, 0, 0⟩) := le_ext (hm.bound _ (Nat.le_refl _))
    have hrun := run_bytes_of_string w s d el b hs hd hel
    have hat : VsRel (ext ρ H.length ⟨false, w.heap.size, 0, 0, 0⟩) (b.data.toList.map fun b => Value.int .u8 b.toNat) (b.data.toList.map fun b => Value.int .u8 b.toNat) := by
      generalize b.data.toList = l
      induction l with
      | nil => exact .nil
      | cons u l ih => exact .cons (.atom rfl) ih
    refine ⟨_, _, _, .inl (by simp only [execOp]; rw [ev_string he hb, Sem.run_bind, hrun]; rfl), hl, .sliceA (L := ⟨false, w.heap.size, 0, 0, 0⟩) (by simp) (fun _ => ⟨rfl, rfl⟩) ?_,
      hm.drew.alloc (L := ⟨false, w.heap.size, 0, 0, 0⟩) (fun _ => rfl) (fun _ h => by cases h) ⟨rfl, rfl, _, _, _, heap_alloc_new w.drew _, ?_⟩⟩
    · have := grownCap_ge w b.size 0 el; omega
    · have : (bytesRow b (grownCap w b.size 0 el)).toList.take (b.data.toList.map fun b => Value.int .u8 b.toNat).length = b.data.toList.map fun b => Value.int .u8 b.toNat := by
        simp [bytesRow]
      rw [this]; exact hat
  · cases hq

theorem mkS_sound {t el : TypeId} {i : TypeInfo} {z : Value} {l c : Operand} (ht : P.underlying t = some (.slice el)) (hi : P.info? el = some i) (hz : i.zero = some z) (h1 : i.size = 1) (hat : atom z = true)
    (hq : aeff (.mkS i.bytes z el l c) e H = some (C, v, H')) (hC : C) (he : ERel ρ e a) (hm : Models ρ H Pr h0 w) : Does P ρ Pr h0 a w ⟨dst, .makeSlice t l c, ty, pos, after, g⟩ v H' := by
  simp only [aeff] at hq
  split at hq
  · rename_i n m hl hc; cases hq
    obtain ⟨rfl, hn0, hn1, hn2⟩ := hC
    have hzc : z.cells = #[z] := by cases z <;> first | rfl | (simp [atom] at hat; done)
    have hrun := run_make (P := P) w t el i z ht hi hz .i64 .i64 n n hn0 (Int.le_refl _) (by rw [Int.mul_comm]; omega) (by omega)
    have hmade : (madeCells z.cells (n.toNat * i.size)).toList = List.replicate n.toNat z := by
      rw [h1, Nat.mul_one, hzc]
      apply List.ext_getElem
      · simp [madeCells]
      · intro j h2 h3
        simp [madeCells, Nat.mod_one]
    have hrel : VsRel ρ (List.replicate n.toNat z) (madeCells z.cells (n.toNat * i.size)).toList := by
      rw [hmade]
      generalize n.toNat = m
      induction m with
      | zero => exact .nil
      | succ m ih => rw [List.replicate_succ]; exact .cons (.atom hat) ih
    obtain ⟨ρ', hle, hn', hM⟩ := alloc_blk (T := el) (c' := madeCells z.cells (n.toNat * i.size)) hm hrel
    exact ⟨_, _, ρ', .inl (by simp only [execOp]; rw [ev_int he hl, ev_int he hc, Sem.run_bind, hrun]; rfl), hle, .slice (L := ⟨false, w.heap.size, 0, _, 0⟩) hn' rfl (by unfold HID; omega) (by unfold ANY; omega), hM⟩
  · cases hq

/-! ### Rows of zeroes, copies -/
theorem zeroL_len (z : List Value) (n : Nat) : (zeroL z n).length = n * z.length := by simp [zeroL]
theorem zeroL_succ (z : List Value) (n : Nat) : zeroL z (n + 1) = zeroL z n ++ z := by
  simp [zeroL, List.replicate_succ']
theorem zero_cells (z : List Value) : ∀ n : Nat, ((List.range (n * z.length)).map fun i => (⟨z⟩ : Array Value)[i % z.length]!) = zeroL z n
  | 0 => by simp [zeroL]
  | n + 1 => by
    rw [zeroL_succ, ← zero_cells z n, Nat.succ_mul, List.range_add, List.map_append, List.map_map]
    congr 1
    apply List.ext_getElem
    · simp
    · intro j h1 h2
      have hj : j < z.length := by simpa using h2
      have e : (n * z.length + j) % z.length = j := by
        rw [Nat.add_comm, Nat.add_mul_mod_self_right, Nat.mod_eq_of_lt hj]
      have e2 : (⟨z⟩ : Array Value)[j]! = z[j] := by
        rw [getElem!_pos (⟨z⟩ : Array Value) j (by simpa using hj)]; simp
      simp only [List.getElem_map, Function.comp_apply, List.getElem_range, e]
      exact e2
theorem zeroL_rel {ρ : Emb} {z : List Value} (h : z.all (fun x => atom x || nilSlice x) = true) : ∀ n : Nat, VsRel ρ (zeroL z n) (zeroL z n)
  | 0 => by simp [zeroL]; exact .nil
  | n + 1 => by rw [zeroL_succ]; exact (zeroL_rel h n).append (zeros_rel h)

theorem mkSN_sound {t el : TypeId} {i : TypeInfo} {z : Value} {l c : Operand} (ht : P.underlying t = some (.slice el)) (hi : P.info? el = some i) (hz : i.zero = some z) (h1 : z.cells.size = i.size) (hat : z.cells.toList.all (fun x => atom x || nilSlice x) = true)
    (hq : aeff (.mkSN i.bytes z.cells.toList el l c) e H = some (C, v, H')) (hC : C) (he : ERel ρ e a) (hm : Models ρ H Pr h0 w) : Does P ρ Pr h0 a w ⟨dst, .makeSlice t l c, ty, pos, after, g⟩ v H' := by
  simp only [aeff] at hq
  split at hq
  · rename_i n m hl hc; cases hq
    obtain ⟨rfl, hn0, hn1, hn2⟩ := hC
    have hrun := run_make (P := P) w t el i z ht hi hz .i64 .i64 n n hn0 (Int.le_refl _) (by rw [Int.mul_comm]; omega) (by omega)
    have hmade : (madeCells z.cells (n.toNat * i.size)).toList = zeroL z.cells.toList n.toNat := by
      rw [← zero_cells, ← h1]
      simp [madeCells]
    obtain ⟨ρ', hle, hn', hM⟩ := alloc_blk (T := el) (c' := madeCells z.cells (n.toNat * i.size)) hm (by rw [hmade]; exact zeroL_rel hat n.toNat)
    exact ⟨_, _, ρ', .inl (by simp only [execOp]; rw [ev_int he hl, ev_int he hc, Sem.run_bind, hrun]; rfl), hle, .slice (L := ⟨false, w.heap.size, 0, _, 0⟩) hn' rfl (by unfold HID; omega) (by unfold ANY; omega), hM⟩
  · cases hq

/-- Where a slice that is not empty lies. -/
theorem ev_slice_at (he : ERel ρ e a) {x : Operand} {i off n c : Nat} (h : ev e x = some (.slice (some ⟨i, off, none⟩) n c)) (hn : 0 < n) : ∃ L c', ρ i = some L ∧ L.abs = false ∧ a.eval x = .slice (some ⟨L.blk, L.base + off, none⟩) n c' := by
  have := he.ev h; generalize a.eval x = y at *
  cases this with
  | atom h => simp [atom] at h
  | slice h1 h2 h3 h4 => exact ⟨_, _, h1, h2, rfl⟩
  | sliceH h1 h2 h3 => exact ⟨_, _, h1, h2, rfl⟩
  | sliceE h1 h2 => omega
  | sliceA h1 h2 h3 => obtain ⟨h4, rfl⟩ := h2 hn; exact ⟨_, _, h1, h4, rfl⟩

theorem copy_sound {t u el e2 : TypeId} {i : TypeInfo} {x y : Operand} {c : Call} (hcal : c.callee = .builtin .copy) (hty : c.argTypes.toList = [t, u]) (hargs : c.args.toList = [x, y]) (ht : P.underlying t = some (.slice el)) (hu : P.underlying u = some (.slice e2)) (hi : P.info? el = some i)
    (hq : aeff (.copy i.size x y) e H = some (C, v, H')) (hC : C) (he : ERel ρ e a) (hm : Models ρ H Pr h0 w) : Does P ρ Pr h0 a w ⟨dst, .call c, ty, pos, after, g⟩ v H' := by
  simp only [aeff] at hq
  split at hq
  · rename_i b off n k q m k2 hx hy
    split at hq
    · rename_i cy ys hys
      split at hq
      · rename_i o ho
        split at hq
        · rename_i hrw
          split at hq
          · rename_i cs hcs; cases hq
            obtain ⟨h1, h2, h3, h4⟩ := hC
            obtain ⟨L, k', hL, hab, hxv⟩ := ev_slice_at he hx h2
            obtain ⟨p, q', n', kk, kk', hs1, hs2, l', hr, hlen, hat⟩ := slice_rel hm hys h1 (he.ev hy)
            cases hs1
            have hr2 := hr.take (min m n * i.size)
            have hmul : min m n * i.size ≤ n * i.size := Nat.mul_le_mul_right _ (by omega)
            have hmul2 : min m n * i.size ≤ m * i.size := Nat.mul_le_mul_right _ (by omega)
            have hll : (l'.take (min m n * i.size)).length = min m n * i.size := by rw [List.length_take]; omega
            have hone : (ys.take (min m n * i.size)).all oneCell = true := by
              rw [List.all_eq_true] at h4 ⊢
              exact fun z hz => h4 z (List.mem_of_mem_take hz)
            obtain ⟨w', hst, hM⟩ := put_sound (P := P) (off := off) hm ho hrw hcs hL hab hr2 hone (by rw [hr2.length, hll]; omega)
            have hfirst : (Builtin.firstCells i.size (min m n) (.slice p m kk')).run P w = .ok (l'.take (min m n * i.size)).toArray w := by
              rcases hat with h0' | ⟨b2, o2, rfl, hra⟩
              · subst h0'
                have e0 : l'.take (min 0 n * i.size) = [] := by simp
                rw [e0]
                cases p with
                | none => rfl
                | some pa =>
                  have := run_loadCells_list (P := P) w pa [] (by simp)
                  simpa [Builtin.firstCells] using this
              · have := run_loadCells_list (P := P) w ⟨b2, o2, none⟩ (l'.take (min m n * i.size)) (fun j z hz => by
                  rw [Addr.add_mid]
                  have hj : j < min m n * i.size := by
                    have := (List.getElem?_eq_some_iff.1 hz).1
                    rw [hll] at this; exact this
                  rw [List.getElem?_take_of_lt hj] at hz
                  exact hra j z hz)
                rw [hll] at this
                simpa [Builtin.firstCells] using this
            refine ⟨_, w', ρ, .inl ?_, Emb.le_refl ρ, .atom rfl, hM⟩
            obtain ⟨cal, ⟨args⟩, ⟨tys⟩⟩ := c
            simp only at hcal hargs hty; subst hcal; subst hargs; subst hty
            have hmin : Nat.min m n = min m n := rfl
            simp [execOp, resolve, invoke, builtin, Builtin.copy_, hxv, hs2, run_underlying ht, Builtin.lenOf, run_sizeOf' hi, hmin, hfirst, hst, goInt]
          · cases hq
        · cases hq
      · cases hq
    · cases hq
  · cases hq

theorem clear_sound {t el : TypeId} {i : TypeInfo} {z : Value} {x : Operand} {c : Call} (hcal : c.callee = .builtin .clear) (hty : c.argTypes[0]? = some t) (hargs : c.args.toList = [x]) (ht : P.underlying t = some (.slice el)) (hi : P.info? el = some i) (hz : i.zero = some z)
    (h1 : z.cells.size = i.size) (hat : z.cells.toList.all (fun x => atom x || nilSlice x) = true)
    (hq : aeff (.clear i.size z.cells.toList x) e H = some (C, v, H')) (hC : C) (he : ERel ρ e a) (hm : Models ρ H Pr h0 w) : Does P ρ Pr h0 a w ⟨dst, .call c, ty, pos, after, g⟩ v H' := by
  obtain ⟨cal, ⟨args⟩, tys⟩ := c
  simp only at hcal hargs hty; subst hcal; subst hargs
  simp only [aeff] at hq
  split at hq
  · rename_i q hx; cases hq
    have := he.ev hx
    generalize hy : a.eval x = y at this
    have key : ∃ p k, y = .slice p 0 k := by
      cases this with
      | atom h => simp [atom] at h
      | sliceN => exact ⟨_, _, rfl⟩
      | sliceX => exact ⟨_, _, rfl⟩
    obtain ⟨p, k, rfl⟩ := key
    refine ⟨.tuple #[], w, ρ, .inl ?_, Emb.le_refl ρ, .tuple .nil, hm⟩
    cases p <;> simp [execOp, resolve, invoke, builtin, Builtin.clear_, hty, hy, run_underlying ht]
  · rename_i b off n k hx
    split at hq
    · rename_i o ho
      split at hq
      · rename_i hrw
        split at hq
        · rename_i cs hcs; cases hq
          obtain ⟨h2, h3, h4, h5⟩ := hC
          obtain ⟨L, k', hL, hab, hxv⟩ := ev_slice_at he hx h2
          obtain ⟨w', hst, hM⟩ := put_sound (P := P) (off := off) hm ho hrw hcs hL hab (zeroL_rel (ρ := ρ) hat n) h5 (by rw [zeroL_len, h4]; omega)
          have hz2 : (Builtin.zeroCells z.cells n).toList = zeroL z.cells.toList n := by
            rw [← zero_cells]
            simp [Builtin.zeroCells]
          refine ⟨.tuple #[], w', ρ, .inl ?_, Emb.le_refl ρ, .tuple .nil, hM⟩
          obtain ⟨n, rfl⟩ : ∃ m, n = m + 1 := ⟨n - 1, by omega⟩
          simp [execOp, resolve, invoke, builtin, Builtin.clear_, hty, hxv, run_underlying ht, run_zeroValue' hi hz, hz2, hst]
        · cases hq
      · cases hq
    · cases hq
  · cases hq

/-! ### Maps -/
theorem mkMap_sound {t : TypeId} (hq : aeff .mkMap e H = some (C, v, H')) (hm : Models ρ H Pr h0 w) : Does P ρ Pr h0 a w ⟨dst, .makeMap t none, ty, pos, after, g⟩ v H' := by
  simp only [aeff] at hq; cases hq
  have hl : ρ.le (ext ρ H.length ⟨false, w.heap.size, 0, 0, 0⟩) := le_ext (hm.bound _ (Nat.le_refl _))
  refine ⟨.map (some w.heap.size), w.alloc (.map #[] 0), _, .inl ?_, hl, .map (L := ⟨false, w.heap.size, 0, 0, 0⟩) (by simp) rfl,
    hm.alloc (L := ⟨false, w.heap.size, 0, 0, 0⟩) (fun _ => rfl) (fun _ h => by cases h) ⟨rfl, #[], heap_alloc_new w _, rfl, fun i x x' hx => by simp at hx⟩⟩
  rfl

/-- A map with other entries. -/
theorem map_change (hm : Models ρ H Pr h0 w) {j : Nat} {es es2 : List (Bs × Value)} (ho : H[j]? = some (.map es)) {L : Loc} (hL : ρ j = some L) (hab : L.abs = false) {es' es2' : Array MapEntry} (hh : w.heap[L.blk]? = some (.map es' es.length))
    (hr : MRel ρ es2 es2'.toList) : Models ρ (H.set j (.map es2)) Pr h0 { w with heap := w.heap.setIfInBounds L.blk (.map es2' es2.length) } := by
  obtain ⟨g1, g2⟩ := Go.MapKept.heap_set (o' := .map es2' es2.length) hh
  exact hm.change ho rfl rfl hL ⟨hab, es2', g1, hr⟩ (fun b hb => g2 b (by rcases hb with h | h; exact absurd h (by rw [hab]; simp); exact h)) (by simp) ⟨rfl, rfl⟩

theorem mapEntry_sound {t key el : TypeId} {inf : TypeInfo} {z : Value} {x y : Operand} (hu : P.underlying t = some (.map key el)) (hk : P.underlying key = some .string) (hi : P.info? el = some inf) (hz : inf.zero = some z) (hat : atom z = true)
    (hq : aeff (.mapEntry z x y) e H = some (C, v, H')) (he : ERel ρ e a) (hm : Models ρ H Pr h0 w) : Does P ρ Pr h0 a w ⟨dst, .mapEntry t x y, ty, pos, after, g⟩ v H' := by
  simp only [aeff] at hq
  split at hq
  · rename_i j s hx hy
    split at hq
    · rename_i es ho
      split at hq
      · rename_i hnone; cases hq
        obtain ⟨L, hL, _, hxv⟩ := ev_map he hx
        obtain ⟨es', hh, hr, hab, hf⟩ := map_find (P := P) (t := t) (el := el) hm hk ho hL s
        have hg := Go.MapKept.run_getObj_map (P := P) hh
        have hset := fun o => Go.MapKept.run_setObj_map (P := P) o hh
        rcases hf with ⟨h1, h2⟩ | ⟨u, i, u', h1, h2, h3⟩
        · have hlen : es'.size = es.length := by have := hr.1; simp at this; omega
          have hr2 : MRel ρ (es ++ [(s.data.toList, z)]) (es'.push { key := .string s, val := z, born := es.length }).toList := by
            refine ⟨by simp [hlen], fun i x x' hx hx' => ?_⟩
            simp only [Array.toList_push] at hx'
            rcases Nat.lt_trichotomy i es.length with h | h | h
            · rw [List.getElem?_append_left h] at hx
              rw [List.getElem?_append_left (by simp; omega)] at hx'
              exact hr.2 i x x' hx hx'
            · subst h
              rw [List.getElem?_append_right (Nat.le_refl _)] at hx
              rw [List.getElem?_append_right (by simp; omega)] at hx'
              have e1 : es.length - es'.toList.length = 0 := by simp; omega
              rw [e1] at hx'
              simp at hx hx'
              subst hx; subst hx'
              exact ⟨rfl, .atom hat, rfl⟩
            · rw [List.getElem?_eq_none (by simp; omega)] at hx; cases hx
          have hM := map_change hm ho hL hab hh hr2
          refine ⟨.tuple ⟨[z, .int .i64 es.length]⟩, _, ρ, .inl ?_, Emb.le_refl ρ, .tuple (.cons (.atom hat) (.cons (.atom rfl) .nil)), hM⟩
          simp [execOp, Instr.mapEntry, hxv, ev_string he hy, run_underlying hu, hg, run_checkStr hk, h2, run_zeroValue' hi hz, hset, goInt]
        · rw [h1] at hnone; cases hnone
      · cases hq
    · cases hq
  · cases hq

theorem mset_length : ∀ (es : List (Bs × Value)) (n : Nat) (v : Value), (mset es n v).length = es.length
  | [], _, _ => rfl
  | _ :: _, 0, _ => rfl
  | _ :: es, n + 1, v => by simp [mset, mset_length es n v]
theorem mset_get : ∀ (es : List (Bs × Value)) (n i : Nat) (v : Value) (x : Bs × Value), (mset es n v)[i]? = some x → ∃ y, es[i]? = some y ∧ x.1 = y.1 ∧ x.2 = if i = n then v else y.2
  | [], _, _, _, x, h => by simp [mset] at h
  | y :: es, 0, 0, v, x, h => by simp [mset] at h; subst h; exact ⟨y, rfl, rfl, by simp⟩
  | y :: es, 0, i + 1, v, x, h => by simp [mset] at h; exact ⟨x, by simpa using h, rfl, by simp⟩
  | y :: es, n + 1, 0, v, x, h => by simp [mset] at h; subst h; exact ⟨y, rfl, rfl, by simp⟩
  | y :: es, n + 1, i + 1, v, x, h => by
    simp [mset] at h
    obtain ⟨z, h1, h2, h3⟩ := mset_get es n i v x h
    exact ⟨z, by simpa using h1, h2, by simpa using h3⟩

theorem entryStore_sound {t : TypeId} {m s x : Operand} (hq : aeff (.entryStore m s x) e H = some (C, v, H')) (hC : C) (he : ERel ρ e a) (hm : Models ρ H Pr h0 w) : Does P ρ Pr h0 a w ⟨dst, .entryStore t m s x, ty, pos, after, g⟩ v H' := by
  simp only [aeff] at hq
  split at hq
  · rename_i j k n u hx hy hv
    split at hq
    · rename_i es ho; cases hq
      obtain ⟨hn0, hn1⟩ := hC
      obtain ⟨L, hL, hab, hxv⟩ := ev_map he hx
      obtain ⟨L', hL', hok⟩ := hm.ok j _ ho
      rw [hL] at hL'; cases hL'
      obtain ⟨_, es', hh, hr⟩ := hok
      have hg := Go.MapKept.run_getObj_map (P := P) hh
      have hset := fun o => Go.MapKept.run_setObj_map (P := P) o hh
      have hlen : es'.size = es.length := by have := hr.1; simp at this; omega
      have hborn : ∀ (i : Nat) (h : i < es'.size), es'[i].born = i := by
        intro i h
        have h1 : i < es.length := by omega
        exact (hr.2 i es[i] es'[i] (List.getElem?_eq_getElem h1) (by simp [h])).2.2
      have hfind : es'.findIdx? (fun e => (e.born : Int) == n) = some n.toNat := by
        rw [Array.findIdx?_eq_some_iff_getElem]
        refine ⟨by omega, ?_, ?_⟩
        · have := hborn n.toNat (by omega)
          simp [this]; omega
        · intro i hi
          have := hborn i (by omega)
          simp [this]; omega
      have hr2 : MRel ρ (mset es n.toNat u) (es'.modify n.toNat fun e => { e with val := a.eval x }).toList := by
        refine ⟨by simp [mset_length, hlen], fun i y y' hy hy' => ?_⟩
        obtain ⟨z, h1, h2, h3⟩ := mset_get es n.toNat i u y hy
        have hi : i < es'.size := by
          have := (List.getElem?_eq_some_iff.1 hy').1
          simpa using this
        obtain ⟨g1, g2, g3⟩ := hr.2 i z es'[i] h1 (by simp [hi])
        have hy2 : y' = if n.toNat = i then { es'[i] with val := a.eval x } else es'[i] := by
          rw [Array.toList_modify, List.getElem?_modify] at hy'
          simp [hi] at hy'
          exact hy'.symm
        by_cases hin : i = n.toNat
        · subst hin
          simp only [if_true] at hy2 h3
          subst hy2
          exact ⟨by rw [h2]; exact g1, by rw [h3]; exact he.ev hv, g3⟩
        · rw [if_neg (Ne.symm hin)] at hy2
          rw [if_neg hin] at h3
          subst hy2
          exact ⟨by rw [h2]; exact g1, by rw [h3]; exact g2, g3⟩
      have hM := map_change hm ho hL hab hh hr2
      rw [mset_length] at hM
      refine ⟨undef, _, ρ, .inr ⟨?_, rfl⟩, Emb.le_refl ρ, .tuple .nil, hM⟩
      simp [execOp, Instr.entryStore, hxv, hg, ev_int he hy, asInt, asIntOf, hfind, hset]
    · cases hq
  · cases hq
end
end Go.Abs
