import Derived.Test.YthpclmlfmhjadaaDoorK1
import Derived.Test.YthpclmlfmhjadaaDoorDAs4
set_option linter.unusedSimpArgs false
namespace Go.Abs
set_option maxRecDepth 10000
open Go.Proofs

theorem Models.grow {ρ : Emb} {H : AHeap} {Pr : Nat → Prop} {h0 : Keep} {w w' : World} (hm : Models ρ H Pr h0 w) (hold : ∀ b, b < w.heap.size → w'.heap[b]? = w.heap[b]?) (hsz : w.heap.size ≤ w'.heap.size) (hio : w'.os = w.os ∧ w'.output = w.output) : Models ρ H Pr h0 w' := by
  have hlt : ∀ i x M, H[i]? = some x → x ≠ .dead → ρ i = some M → M.abs = false → M.blk < w.heap.size := fun m x M hx hd hM hab => by
    obtain ⟨M', hM', hMo⟩ := hm.ok m x hx
    rw [hM] at hM'; cases hM'
    exact hMo.lt hd hab
  refine ⟨fun i o ho => ?_, hm.bound, hm.own, hm.inj, fun b hb => ?_, hm.ro, hm.rop, fun x hx => ?_, ⟨hio.1.trans hm.io.1, hio.2.trans hm.io.2⟩⟩
  · obtain ⟨L, hL, hok⟩ := hm.ok i o ho
    refine ⟨L, hL, ?_⟩
    by_cases hd : o = .dead
    · subst hd; trivial
    · exact hok.mono (Emb.le_refl ρ) fun hab => hold _ (hlt i o L ho hd hL hab)
  · obtain ⟨h1, h2⟩ := hm.keep b hb
    exact ⟨by rw [hold b h2]; exact h1, by omega⟩
  · obtain ⟨h1, h2⟩ := hm.glob x hx
    exact ⟨h1, by rw [hold _ (hm.keep _ h1).2]; exact h2⟩

theorem setCell_other (w : World) (a : Addr) (v : Value) {b : Nat} (h : b ≠ a.block) : (w.setCell a v).heap[b]? = w.heap[b]? := by
  simp [World.setCell, Array.getElem?_modify, Ne.symm h]
theorem setCell_size (w : World) (a : Addr) (v : Value) : (w.setCell a v).heap.size = w.heap.size := by simp [World.setCell]
theorem setCell_at (w : World) {b : Nat} (v : Value) {c : Array Value} {T : TypeId} (h : w.heap[b]? = some (.cells c T)) : (w.setCell ⟨b, 0, none⟩ v).heap[b]? = some (.cells (c.setIfInBounds 0 v) T) := by
  simp [World.setCell, Array.getElem?_modify, h]

/-- What errors.As does to the memory that we tell of. -/
theorem as_models {ρ : Emb} {H : AHeap} {Pr : Nat → Prop} {h0 : Keep} {w : World} (hm : Models ρ H Pr h0 w) {n : Nat} {k u : Int} {L : Loc} (hn : H[n]? = some (.blk [.int .i64 u] 24)) (hL : ρ n = some L) (o1 o2 o3 o4 : Obj) :
    Models ρ (H.set n (.blk [.int .i64 k] 24)) Pr h0 (((((w.alloc o1).alloc o2).alloc o3).alloc o4).setCell ⟨L.blk, 0, none⟩ (.int .i64 k)) := by
  have hsz : (((((w.alloc o1).alloc o2).alloc o3).alloc o4)).heap.size = w.heap.size + 4 := by simp
  have hold : ∀ b, b < w.heap.size → ((((w.alloc o1).alloc o2).alloc o3).alloc o4).heap[b]? = w.heap[b]? := fun b hb => by
    rw [alloc_old _ _ (by simp; omega), alloc_old _ _ (by simp; omega), alloc_old _ _ (by simp; omega), alloc_old _ _ hb]
  have hm4 := hm.grow hold (by omega) ⟨rfl, rfl⟩
  obtain ⟨L', hL', hok⟩ := hm4.ok n _ hn
  rw [hL] at hL'; cases hL'
  obtain ⟨h1, h2, h3, c', h4, h5⟩ := hok
  refine hm4.change hn rfl rfl hL ⟨h1, h2, h3, _, setCell_at _ _ h4, ?_⟩ (fun b hb => ?_) (by rw [setCell_size]; exact Nat.le_refl _) ⟨rfl, rfl⟩
  · obtain ⟨c'⟩ := c'
    cases h5 with
    | cons a b =>
      cases b
      exact .cons (.atom rfl) .nil
  · rcases hb with hb | hb
    · rw [h1] at hb; cases hb
    · exact setCell_other _ _ _ hb

theorem blk_cell {ρ : Emb} {H : AHeap} {Pr : Nat → Prop} {h0 : Keep} {w : World} (hm : Models ρ H Pr h0 w) {i : Nat} {c : List Value} {T : TypeId} {L : Loc} (hi : H[i]? = some (.blk c T)) (hL : ρ i = some L) {j : Nat} {v : Value} (hv : c[j]? = some v) :
    L.abs = false ∧ L.base = 0 ∧ (∃ v', w.cell? ⟨L.blk, j, none⟩ = some v' ∧ VRel ρ v v') ∧ w.frozen? ⟨L.blk, j, none⟩ = false := by
  obtain ⟨L', hL', hok⟩ := hm.ok i _ hi
  rw [hL] at hL'; cases hL'
  obtain ⟨h1, h2, h3, c', h4, h5⟩ := hok
  obtain ⟨v', h6, h7⟩ := h5.get hv
  exact ⟨h1, h2, ⟨v', by simpa [World.cell?, h4] using h6, h7⟩, by simp [World.frozen?, h4]⟩

theorem cell_lt {w : World} {a : Addr} {v : Value} (h : w.cell? a = some v) : a.block < w.heap.size := by
  rcases Nat.lt_or_ge a.block w.heap.size with h1 | h1
  · exact h1
  · simp [World.cell?, Array.getElem?_eq_none h1] at h

theorem handle {ρ : Emb} {H : AHeap} {Pr : Nat → Prop} {h0 : Keep} {w : World} (hm : Models ρ H Pr h0 w) : w.cell? ⟨0, 0, none⟩ = some (.iface 65 (.agg #[.pointer (some ⟨1, 41, none⟩)])) := by
  obtain ⟨_, o, h1, c, T, fr, rfl, h2⟩ := hm.glob _ (List.mem_singleton.2 rfl)
  simpa [World.cell?, h1] using h2

theorem errors_As1 {H : AHeap} {i n : Nat} {a k u : Int} (hi : H[i]? = some (.blk [.int .i64 a, .iface 24 (.int .i64 k)] 49)) (hn : H[n]? = some (.blk [.int .i64 u] 24)) :
    ACalls P 17 [.iface 47 (.pointer (some ⟨i, 0, none⟩)), .iface 51 (.pointer (some ⟨n, 0, none⟩))] H fun v H' => v = .bool true ∧ H' = H.set n (.blk [.int .i64 k] 24) := by
  intro ρ Pr h0 w args' ha hm
  cases ha with
  | cons h1 h2 =>
  cases h2 with
  | cons h2 h3 =>
  cases h3
  cases h1 with
  | atom h => simp [atom] at h
  | iface h1 =>
  cases h2 with
  | atom h => simp [atom] at h
  | iface h2 =>
  cases h1 with
  | atom h => simp [atom] at h
  | ptr hLi hai =>
  cases h2 with
  | atom h => simp [atom] at h
  | ptr hLn han =>
  rename_i Li Ln
  obtain ⟨_, bi, ⟨v', hv, hvr⟩, _⟩ := blk_cell hm hi hLi (j := 1) rfl
  obtain ⟨_, bn, ⟨u', hu, hur⟩, hfr⟩ := blk_cell hm hn hLn (j := 0) rfl
  rw [bi, bn]
  simp only [Nat.add_zero]
  cases hvr with
  | atom h => simp [atom] at h
  | iface hvr =>
  cases hvr
  refine (Das.as17 47 _ k ⟨Ln.blk, 0, none⟩ u' w (handle hm) hu hfr fun W x hW h1 h2 h3 => Das.as1 k _ x Li.blk u' _ W h1 h2 h3 (by rw [hW _ (cell_lt hv)]; exact hv)).mono ?_
  rintro e w' ⟨rfl, rfl⟩
  exact ⟨_, _, ρ, _, rfl, ⟨rfl, rfl⟩, .atom rfl, as_models hm hn hLn _ _ _ _, fun _ _ => rfl⟩

theorem errors_As2 {H : AHeap} {i j n : Nat} {a b k u : Int} (hi : H[i]? = some (.blk [.int .i64 a, .iface 47 (.pointer (some ⟨j, 0, none⟩))] 49)) (hj : H[j]? = some (.blk [.int .i64 b, .iface 24 (.int .i64 k)] 49)) (hn : H[n]? = some (.blk [.int .i64 u] 24)) :
    ACalls P 17 [.iface 47 (.pointer (some ⟨i, 0, none⟩)), .iface 51 (.pointer (some ⟨n, 0, none⟩))] H fun v H' => v = .bool true ∧ H' = H.set n (.blk [.int .i64 k] 24) := by
  intro ρ Pr h0 w args' ha hm
  cases ha with
  | cons h1 h2 =>
  cases h2 with
  | cons h2 h3 =>
  cases h3
  cases h1 with
  | atom h => simp [atom] at h
  | iface h1 =>
  cases h2 with
  | atom h => simp [atom] at h
  | iface h2 =>
  cases h1 with
  | atom h => simp [atom] at h
  | ptr hLi hai =>
  cases h2 with
  | atom h => simp [atom] at h
  | ptr hLn han =>
  rename_i Li Ln
  obtain ⟨_, bi, ⟨v', hv, hvr⟩, _⟩ := blk_cell hm hi hLi (j := 1) rfl
  obtain ⟨_, bn, ⟨u', hu, hur⟩, hfr⟩ := blk_cell hm hn hLn (j := 0) rfl
  rw [bi, bn]
  simp only [Nat.add_zero]
  cases hvr with
  | atom h => simp [atom] at h
  | iface hvr =>
  cases hvr with
  | atom h => simp [atom] at h
  | ptr hLj haj =>
  rename_i Lj
  obtain ⟨_, bj, ⟨v2, hv2, hvr2⟩, _⟩ := blk_cell hm hj hLj (j := 1) rfl
  rw [bj] at hv
  simp only [Nat.add_zero] at hv
  cases hvr2 with
  | atom h => simp [atom] at h
  | iface hvr2 =>
  cases hvr2
  refine (Das.as17 47 _ k ⟨Ln.blk, 0, none⟩ u' w (handle hm) hu hfr fun W x hW h1 h2 h3 => Das.as2 k _ x Li.blk Lj.blk u' _ W h1 h2 h3 (by rw [hW _ (cell_lt hv)]; exact hv) (by rw [hW _ (cell_lt hv2)]; exact hv2)).mono ?_
  rintro e w' ⟨rfl, rfl⟩
  exact ⟨_, _, ρ, _, rfl, ⟨rfl, rfl⟩, .atom rfl, as_models hm hn hLn _ _ _ _, fun _ _ => rfl⟩

theorem there17 : There P 17 := ⟨_, _, Go.Proofs.Tryd.func17, rfl, rfl⟩

theorem errors_As0 (t : Value) (H : AHeap) : ACalls P 17 [.nilIface, t] H fun v H' => v = .bool false ∧ H' = H := by
  intro ρ Pr h0 w args' ha hm
  cases ha with
  | cons h1 h2 =>
  cases h2 with
  | cons h2 h3 =>
  cases h3
  cases h1
  refine (Das.as_nil _ w).mono ?_
  rintro e w' ⟨rfl, rfl⟩
  exact ⟨_, _, ρ, _, rfl, ⟨rfl, rfl⟩, .atom rfl, hm, fun _ _ => rfl⟩

/-- The number that an error wraps. -/
theorem field_Code0 (G : AHeap) : ACalls P f_field_Code [.nilIface] G fun v H' => v = .int .i64 0 ∧ H' = G := by
  refine ACalls.pure rfl ?_ (by rintro _ rfl σ; rfl) G
  refine ok_field_Code.calls (by simp) (run 100 (by simp) ?_)
  unfold c_field_Code e_field_Code
  simp only [sgo_some, cgo_true, cgo_false, pgo_some, pgo_none, wgo_true, wgo_false, xgo_some, xgo_none, dsgo_some, dpgo_some, dpgo_none, dqgo_some, dwgo_true, dwgo_false, dwK, DW, recheck, AOp.sync, AOp.looks, retP_ret, retP_normal, toB, exec, argEnv, Holds, step1, aq, aeff, ev, evs, evp, look, callee, wantedA, bind, ibin, sbin, atom, if_true, if_false, reduceIte, resA, resV, exitS, optInt, sliceCells, cellsOf, cellsEq, AObj.cells, AObj.own, AObj.setCells, putCells, fillC, slicing, ifaceEq, Nat.reduceEqDiff, Nat.reduceAdd, Nat.reduceLT, Nat.reduceSub, Nat.reduceMul, Nat.reduceLeDiff, Int.reduceToNat, Int.reduceAdd, Int.reduceLT, Int.reduceLE, Int.toNat_natCast, reduceCtorEq, or_true, or_false, true_or, false_or, true_and, and_true, ne_eq, not_false_eq_true, not_true_eq_false, false_and, and_false, List.getElem?_cons_zero, List.getElem?_cons_succ, List.getElem?_nil, List.length_cons, List.length_nil, List.nil_append, List.cons_append, List.append_nil, beq_self_eq_true, Bool.true_eq_false, Bool.false_eq_true, bne_self_eq_false, Bool.bne_true, Bool.bne_false, Bool.not_true, Bool.not_false, Option.getD_some, Option.getD_none, decide_true, decide_false, List.set_cons_zero, List.set_cons_succ, List.drop_zero, List.drop_succ_cons, List.drop_nil, List.take_zero, List.take_succ_cons, List.take_nil, Nat.add_zero, Nat.zero_add, List.size_toArray, List.all_cons, List.all_nil, oneCell, cells_int, cells_bool, cells_string, cells_pointer, cells_slice, cells_agg, cells_iface, cells_map, cells_func, B_add, B_size, B_list, beqT, beqF, eq_self, bits64, bitsu8, wrapu8, Nat.min_def, Int.reducePow, Int.fdiv_eq_ediv_of_nonneg, Cont, SX, renE, ren, renL, gt_iff_lt, ge_iff_le, decide_eq_true_eq, Int.reduceNeg, Int.neg_neg, bytesOf, Int.reduceEq, Int.reduceBEq, Int.reduceBNe, Nat.reduceBEq, natc0, natc1, natc2, natc3, natc4, Int.reduceMod, List.isEmpty_nil, B_data, B_extract, List.filterMap_cons, List.filterMap_nil, Option.map_some, Nat.sub_zero, Nat.mul_one, List.getElem?_map, and_self, envLe, B_mk, ECode.er, lookV, mfind, mset]
  refine ⟨there17, (errors_As0 _ _).mono ?_⟩
  rintro v H' ⟨rfl, rfl⟩
  refine run 100 (by simp) ?_
  simp only [sgo_some, cgo_true, cgo_false, pgo_some, pgo_none, wgo_true, wgo_false, xgo_some, xgo_none, dsgo_some, dpgo_some, dpgo_none, dqgo_some, dwgo_true, dwgo_false, dwK, DW, recheck, AOp.sync, AOp.looks, retP_ret, retP_normal, toB, exec, argEnv, Holds, step1, aq, aeff, ev, evs, evp, look, callee, wantedA, bind, ibin, sbin, atom, if_true, if_false, reduceIte, resA, resV, exitS, optInt, sliceCells, cellsOf, cellsEq, AObj.cells, AObj.own, AObj.setCells, putCells, fillC, slicing, ifaceEq, Nat.reduceEqDiff, Nat.reduceAdd, Nat.reduceLT, Nat.reduceSub, Nat.reduceMul, Nat.reduceLeDiff, Int.reduceToNat, Int.reduceAdd, Int.reduceLT, Int.reduceLE, Int.toNat_natCast, reduceCtorEq, or_true, or_false, true_or, false_or, true_and, and_true, ne_eq, not_false_eq_true, not_true_eq_false, false_and, and_false, List.getElem?_cons_zero, List.getElem?_cons_succ, List.getElem?_nil, List.length_cons, List.length_nil, List.nil_append, List.cons_append, List.append_nil, beq_self_eq_true, Bool.true_eq_false, Bool.false_eq_true, bne_self_eq_false, Bool.bne_true, Bool.bne_false, Bool.not_true, Bool.not_false, Option.getD_some, Option.getD_none, decide_true, decide_false, List.set_cons_zero, List.set_cons_succ, List.drop_zero, List.drop_succ_cons, List.drop_nil, List.take_zero, List.take_succ_cons, List.take_nil, Nat.add_zero, Nat.zero_add, List.size_toArray, List.all_cons, List.all_nil, oneCell, cells_int, cells_bool, cells_string, cells_pointer, cells_slice, cells_agg, cells_iface, cells_map, cells_func, B_add, B_size, B_list, beqT, beqF, eq_self, bits64, bitsu8, wrapu8, Nat.min_def, Int.reducePow, Int.fdiv_eq_ediv_of_nonneg, Cont, SX, renE, ren, renL, gt_iff_lt, ge_iff_le, decide_eq_true_eq, Int.reduceNeg, Int.neg_neg, bytesOf, Int.reduceEq, Int.reduceBEq, Int.reduceBNe, Nat.reduceBEq, natc0, natc1, natc2, natc3, natc4, Int.reduceMod, List.isEmpty_nil, B_data, B_extract, List.filterMap_cons, List.filterMap_nil, Option.map_some, Nat.sub_zero, Nat.mul_one, List.getElem?_map, and_self, envLe, B_mk, ECode.er, lookV, mfind, mset, r_field_Code]
  exact ⟨_, _, rfl, trivial, rfl⟩

theorem field_Code1 (a k : Int) : ACalls P f_field_Code [.iface 47 (.pointer (some ⟨0, 0, none⟩))] [.blk [.int .i64 a, .iface 24 (.int .i64 k)] 49] fun v H' => v = .int .i64 k ∧ H' = [.blk [.int .i64 a, .iface 24 (.int .i64 k)] 49] := by
  refine ACalls.ren (R := fun v H' => v = .int .i64 k ∧ H'[0]? = some (.blk [.int .i64 a, .iface 24 (.int .i64 k)] 49)) ?_ ?_
  · refine ok_field_Code.calls (by simp) (run 100 (by simp) ?_)
    unfold c_field_Code e_field_Code
    simp only [sgo_some, cgo_true, cgo_false, pgo_some, pgo_none, wgo_true, wgo_false, xgo_some, xgo_none, dsgo_some, dpgo_some, dpgo_none, dqgo_some, dwgo_true, dwgo_false, dwK, DW, recheck, AOp.sync, AOp.looks, retP_ret, retP_normal, toB, exec, argEnv, Holds, step1, aq, aeff, ev, evs, evp, look, callee, wantedA, bind, ibin, sbin, atom, if_true, if_false, reduceIte, resA, resV, exitS, optInt, sliceCells, cellsOf, cellsEq, AObj.cells, AObj.own, AObj.setCells, putCells, fillC, slicing, ifaceEq, Nat.reduceEqDiff, Nat.reduceAdd, Nat.reduceLT, Nat.reduceSub, Nat.reduceMul, Nat.reduceLeDiff, Int.reduceToNat, Int.reduceAdd, Int.reduceLT, Int.reduceLE, Int.toNat_natCast, reduceCtorEq, or_true, or_false, true_or, false_or, true_and, and_true, ne_eq, not_false_eq_true, not_true_eq_false, false_and, and_false, List.getElem?_cons_zero, List.getElem?_cons_succ, List.getElem?_nil, List.length_cons, List.length_nil, List.nil_append, List.cons_append, List.append_nil, beq_self_eq_true, Bool.true_eq_false, Bool.false_eq_true, bne_self_eq_false, Bool.bne_true, Bool.bne_false, Bool.not_true, Bool.not_false, Option.getD_some, Option.getD_none, decide_true, decide_false, List.set_cons_zero, List.set_cons_succ, List.drop_zero, List.drop_succ_cons, List.drop_nil, List.take_zero, List.take_succ_cons, List.take_nil, Nat.add_zero, Nat.zero_add, List.size_toArray, List.all_cons, List.all_nil, oneCell, cells_int, cells_bool, cells_string, cells_pointer, cells_slice, cells_agg, cells_iface, cells_map, cells_func, B_add, B_size, B_list, beqT, beqF, eq_self, bits64, bitsu8, wrapu8, Nat.min_def, Int.reducePow, Int.fdiv_eq_ediv_of_nonneg, Cont, SX, renE, ren, renL, gt_iff_lt, ge_iff_le, decide_eq_true_eq, Int.reduceNeg, Int.neg_neg, bytesOf, Int.reduceEq, Int.reduceBEq, Int.reduceBNe, Nat.reduceBEq, natc0, natc1, natc2, natc3, natc4, Int.reduceMod, List.isEmpty_nil, B_data, B_extract, List.filterMap_cons, List.filterMap_nil, Option.map_some, Nat.sub_zero, Nat.mul_one, List.getElem?_map, and_self, envLe, B_mk, ECode.er, lookV, mfind, mset]
    refine ⟨there17, (errors_As1 (a := a) (k := k) (u := 0) rfl rfl).mono ?_⟩
    rintro v H' ⟨rfl, rfl⟩
    refine run 100 (by simp) ?_
    simp only [sgo_some, cgo_true, cgo_false, pgo_some, pgo_none, wgo_true, wgo_false, xgo_some, xgo_none, dsgo_some, dpgo_some, dpgo_none, dqgo_some, dwgo_true, dwgo_false, dwK, DW, recheck, AOp.sync, AOp.looks, retP_ret, retP_normal, toB, exec, argEnv, Holds, step1, aq, aeff, ev, evs, evp, look, callee, wantedA, bind, ibin, sbin, atom, if_true, if_false, reduceIte, resA, resV, exitS, optInt, sliceCells, cellsOf, cellsEq, AObj.cells, AObj.own, AObj.setCells, putCells, fillC, slicing, ifaceEq, Nat.reduceEqDiff, Nat.reduceAdd, Nat.reduceLT, Nat.reduceSub, Nat.reduceMul, Nat.reduceLeDiff, Int.reduceToNat, Int.reduceAdd, Int.reduceLT, Int.reduceLE, Int.toNat_natCast, reduceCtorEq, or_true, or_false, true_or, false_or, true_and, and_true, ne_eq, not_false_eq_true, not_true_eq_false, false_and, and_false, List.getElem?_cons_zero, List.getElem?_cons_succ, List.getElem?_nil, List.length_cons, List.length_nil, List.nil_append, List.cons_append, List.append_nil, beq_self_eq_true, Bool.true_eq_false, Bool.false_eq_true, bne_self_eq_false, Bool.bne_true, Bool.bne_false, Bool.not_true, Bool.not_false, Option.getD_some, Option.getD_none, decide_true, decide_false, List.set_cons_zero, List.set_cons_succ, List.drop_zero, List.drop_succ_cons, List.drop_nil, List.take_zero, List.take_succ_cons, List.take_nil, Nat.add_zero, Nat.zero_add, List.size_toArray, List.all_cons, List.all_nil, oneCell, cells_int, cells_bool, cells_string, cells_pointer, cells_slice, cells_agg, cells_iface, cells_map, cells_func, B_add, B_size, B_list, beqT, beqF, eq_self, bits64, bitsu8, wrapu8, Nat.min_def, Int.reducePow, Int.fdiv_eq_ediv_of_nonneg, Cont, SX, renE, ren, renL, gt_iff_lt, ge_iff_le, decide_eq_true_eq, Int.reduceNeg, Int.neg_neg, bytesOf, Int.reduceEq, Int.reduceBEq, Int.reduceBNe, Nat.reduceBEq, natc0, natc1, natc2, natc3, natc4, Int.reduceMod, List.isEmpty_nil, B_data, B_extract, List.filterMap_cons, List.filterMap_nil, Option.map_some, Nat.sub_zero, Nat.mul_one, List.getElem?_map, and_self, envLe, B_mk, ECode.er, lookV, mfind, mset, r_field_Code]
    refine ⟨_, _, rfl, by simp, ?_⟩
    trace_state
    simp
  · rintro v H ⟨rfl, h⟩
    refine ⟨_, [.blk [.int .i64 a, .iface 24 (.int .i64 k)] 49], [0], by simp, ?_, rfl, ?_, rfl, rfl⟩
    · simp only [renOk, AObj.ren, renL, ren, and_true]; exact h
    · intro i hi
      have : i = 0 := by simpa using hi
      subst this; rfl

theorem field_Code2 (a b k : Int) : ACalls P f_field_Code [.iface 47 (.pointer (some ⟨0, 0, none⟩))] [.blk [.int .i64 a, .iface 47 (.pointer (some ⟨1, 0, none⟩))] 49, .blk [.int .i64 b, .iface 24 (.int .i64 k)] 49] fun v H' => v = .int .i64 k ∧ H' = [.blk [.int .i64 a, .iface 47 (.pointer (some ⟨1, 0, none⟩))] 49, .blk [.int .i64 b, .iface 24 (.int .i64 k)] 49] := by
  refine ACalls.ren (R := fun v H' => v = .int .i64 k ∧ H'[0]? = some (.blk [.int .i64 a, .iface 47 (.pointer (some ⟨1, 0, none⟩))] 49) ∧ H'[1]? = some (.blk [.int .i64 b, .iface 24 (.int .i64 k)] 49)) ?_ ?_
  · refine ok_field_Code.calls (by simp) (run 100 (by simp) ?_)
    unfold c_field_Code e_field_Code
    simp only [sgo_some, cgo_true, cgo_false, pgo_some, pgo_none, wgo_true, wgo_false, xgo_some, xgo_none, dsgo_some, dpgo_some, dpgo_none, dqgo_some, dwgo_true, dwgo_false, dwK, DW, recheck, AOp.sync, AOp.looks, retP_ret, retP_normal, toB, exec, argEnv, Holds, step1, aq, aeff, ev, evs, evp, look, callee, wantedA, bind, ibin, sbin, atom, if_true, if_false, reduceIte, resA, resV, exitS, optInt, sliceCells, cellsOf, cellsEq, AObj.cells, AObj.own, AObj.setCells, putCells, fillC, slicing, ifaceEq, Nat.reduceEqDiff, Nat.reduceAdd, Nat.reduceLT, Nat.reduceSub, Nat.reduceMul, Nat.reduceLeDiff, Int.reduceToNat, Int.reduceAdd, Int.reduceLT, Int.reduceLE, Int.toNat_natCast, reduceCtorEq, or_true, or_false, true_or, false_or, true_and, and_true, ne_eq, not_false_eq_true, not_true_eq_false, false_and, and_false, List.getElem?_cons_zero, List.getElem?_cons_succ, List.getElem?_nil, List.length_cons, List.length_nil, List.nil_append, List.cons_append, List.append_nil, beq_self_eq_true, Bool.true_eq_false, Bool.false_eq_true, bne_self_eq_false, Bool.bne_true, Bool.bne_false, Bool.not_true, Bool.not_false, Option.getD_some, Option.getD_none, decide_true, decide_false, List.set_cons_zero, List.set_cons_succ, List.drop_zero, List.drop_succ_cons, List.drop_nil, List.take_zero, List.take_succ_cons, List.take_nil, Nat.add_zero, Nat.zero_add, List.size_toArray, List.all_cons, List.all_nil, oneCell, cells_int, cells_bool, cells_string, cells_pointer, cells_slice, cells_agg, cells_iface, cells_map, cells_func, B_add, B_size, B_list, beqT, beqF, eq_self, bits64, bitsu8, wrapu8, Nat.min_def, Int.reducePow, Int.fdiv_eq_ediv_of_nonneg, Cont, SX, renE, ren, renL, gt_iff_lt, ge_iff_le, decide_eq_true_eq, Int.reduceNeg, Int.neg_neg, bytesOf, Int.reduceEq, Int.reduceBEq, Int.reduceBNe, Nat.reduceBEq, natc0, natc1, natc2, natc3, natc4, Int.reduceMod, List.isEmpty_nil, B_data, B_extract, List.filterMap_cons, List.filterMap_nil, Option.map_some, Nat.sub_zero, Nat.mul_one, List.getElem?_map, and_self, envLe, B_mk, ECode.er, lookV, mfind, mset]
    refine ⟨there17, (errors_As2 (a := a) (b := b) (k := k) (u := 0) rfl rfl rfl).mono ?_⟩
    rintro v H' ⟨rfl, rfl⟩
    refine run 100 (by simp) ?_
    simp only [sgo_some, cgo_true, cgo_false, pgo_some, pgo_none, wgo_true, wgo_false, xgo_some, xgo_none, dsgo_some, dpgo_some, dpgo_none, dqgo_some, dwgo_true, dwgo_false, dwK, DW, recheck, AOp.sync, AOp.looks, retP_ret, retP_normal, toB, exec, argEnv, Holds, step1, aq, aeff, ev, evs, evp, look, callee, wantedA, bind, ibin, sbin, atom, if_true, if_false, reduceIte, resA, resV, exitS, optInt, sliceCells, cellsOf, cellsEq, AObj.cells, AObj.own, AObj.setCells, putCells, fillC, slicing, ifaceEq, Nat.reduceEqDiff, Nat.reduceAdd, Nat.reduceLT, Nat.reduceSub, Nat.reduceMul, Nat.reduceLeDiff, Int.reduceToNat, Int.reduceAdd, Int.reduceLT, Int.reduceLE, Int.toNat_natCast, reduceCtorEq, or_true, or_false, true_or, false_or, true_and, and_true, ne_eq, not_false_eq_true, not_true_eq_false, false_and, and_false, List.getElem?_cons_zero, List.getElem?_cons_succ, List.getElem?_nil, List.length_cons, List.length_nil, List.nil_append, List.cons_append, List.append_nil, beq_self_eq_true, Bool.true_eq_false, Bool.false_eq_true, bne_self_eq_false, Bool.bne_true, Bool.bne_false, Bool.not_true, Bool.not_false, Option.getD_some, Option.getD_none, decide_true, decide_false, List.set_cons_zero, List.set_cons_succ, List.drop_zero, List.drop_succ_cons, List.drop_nil, List.take_zero, List.take_succ_cons, List.take_nil, Nat.add_zero, Nat.zero_add, List.size_toArray, List.all_cons, List.all_nil, oneCell, cells_int, cells_bool, cells_string, cells_pointer, cells_slice, cells_agg, cells_iface, cells_map, cells_func, B_add, B_size, B_list, beqT, beqF, eq_self, bits64, bitsu8, wrapu8, Nat.min_def, Int.reducePow, Int.fdiv_eq_ediv_of_nonneg, Cont, SX, renE, ren, renL, gt_iff_lt, ge_iff_le, decide_eq_true_eq, Int.reduceNeg, Int.neg_neg, bytesOf, Int.reduceEq, Int.reduceBEq, Int.reduceBNe, Nat.reduceBEq, natc0, natc1, natc2, natc3, natc4, Int.reduceMod, List.isEmpty_nil, B_data, B_extract, List.filterMap_cons, List.filterMap_nil, Option.map_some, Nat.sub_zero, Nat.mul_one, List.getElem?_map, and_self, envLe, B_mk, ECode.er, lookV, mfind, mset, r_field_Code]
    refine ⟨_, _, rfl, by simp, ?_⟩
    simp
  · rintro v H ⟨rfl, h, h'⟩
    refine ⟨_, [.blk [.int .i64 a, .iface 47 (.pointer (some ⟨1, 0, none⟩))] 49, .blk [.int .i64 b, .iface 24 (.int .i64 k)] 49], [0, 1], by simp, ?_, rfl, ?_, rfl, rfl⟩
    · simp only [renOk, AObj.ren, renL, ren, and_true]; exact ⟨h, h'⟩
    · intro i hi
      have : i = 0 ∨ i = 1 := by simp at hi; omega
      rcases this with rfl | rfl <;> rfl
end Go.Abs
