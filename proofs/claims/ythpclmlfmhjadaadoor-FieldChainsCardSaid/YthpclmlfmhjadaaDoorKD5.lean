import Derived.Test.YthpclmlfmhjadaaDoorKD4
set_option linter.unusedSimpArgs false
namespace Go.Abs
set_option maxRecDepth 10000

theorem two_pow_small {k : Nat} (hk : k < 30) : (2 : Nat) ^ k ≤ 536870912 := by
  have := Nat.pow_le_pow_right (n := 2) (by omega) (show k ≤ 29 by omega)
  omega

theorem mask_eq (x : Int) (k : Nat) (hk : k < 30) : ∃ r : Nat, r < 2 ^ k ∧ iand .i64 x ((2 : Int) ^ k - 1) = (r : Int) := by
  have h2 := two_pow_small hk
  have hp : 0 < (2 : Nat) ^ k := Nat.pow_pos (by omega)
  refine ⟨(BitVec.ofInt 64 x).toNat % 2 ^ k, Nat.mod_lt _ hp, ?_⟩
  unfold iand wrapB
  have h1 : BitVec.ofInt IntKind.i64.bits ((2 : Int) ^ k - 1) = BitVec.ofNat 64 (2 ^ k - 1) := by
    have : ((2 : Int) ^ k - 1) = ((2 ^ k - 1 : Nat) : Int) := by
      have : ((2 ^ k : Nat) : Int) = (2 : Int) ^ k := by simp
      omega
    rw [this]; rfl
  rw [h1]
  show IntKind.i64.wrap (((BitVec.ofInt 64 x &&& BitVec.ofNat 64 (2 ^ k - 1)).toNat : Nat) : Int) = _
  have h3 : (BitVec.ofInt 64 x &&& BitVec.ofNat 64 (2 ^ k - 1)).toNat = (BitVec.ofInt 64 x).toNat % 2 ^ k := by
    rw [BitVec.toNat_and, BitVec.toNat_ofNat, Nat.mod_eq_of_lt (by omega), Nat.and_two_pow_sub_one_eq_mod]
  rw [h3]
  have := Nat.mod_lt (BitVec.ofInt 64 x).toNat hp
  exact wrap64 (by omega) (by omega)

theorem or_eq (k r : Nat) (hk : k < 30) (hr : r < 2 ^ k) : ior .i64 ((2 : Int) ^ k) (r : Int) = ((2 ^ k + r : Nat) : Int) := by
  have h2 := two_pow_small hk
  unfold ior wrapB
  have h1 : BitVec.ofInt IntKind.i64.bits ((2 : Int) ^ k) = BitVec.ofNat 64 (2 ^ k) := by
    have : ((2 : Int) ^ k) = ((2 ^ k : Nat) : Int) := by simp
    rw [this]; rfl
  have h1' : BitVec.ofInt IntKind.i64.bits (r : Int) = BitVec.ofNat 64 r := rfl
  rw [h1, h1']
  show IntKind.i64.wrap (((BitVec.ofNat 64 (2 ^ k) ||| BitVec.ofNat 64 r).toNat : Nat) : Int) = _
  have h3 : (BitVec.ofNat 64 (2 ^ k) ||| BitVec.ofNat 64 r).toNat = 2 ^ k + r := by
    rw [BitVec.toNat_or, BitVec.toNat_ofNat, BitVec.toNat_ofNat, Nat.mod_eq_of_lt (by omega), Nat.mod_eq_of_lt (by omega)]
    have := Nat.shiftLeft_add_eq_or_of_lt (i := k) (b := r) hr 1
    rw [Nat.shiftLeft_eq, Nat.one_mul] at this
    exact this.symm
  rw [h3]
  exact wrap64 (by omega) (by omega)

theorem wid_pow (k r : Nat) (hk : k < 30) (hr : r < 2 ^ k) : wid ((2 ^ k + r : Nat) : Int) = k / 8 + 1 := by
  have : k = 0 ∨ k = 1 ∨ k = 2 ∨ k = 3 ∨ k = 4 ∨ k = 5 ∨ k = 6 ∨ k = 7 ∨ k = 8 ∨ k = 9 ∨ k = 10 ∨ k = 11 ∨ k = 12 ∨ k = 13 ∨ k = 14 ∨ k = 15 ∨ k = 16 ∨ k = 17 ∨ k = 18 ∨ k = 19 ∨ k = 20 ∨ k = 21 ∨ k = 22 ∨ k = 23 ∨ k = 24 ∨ k = 25 ∨ k = 26 ∨ k = 27 ∨ k = 28 ∨ k = 29 := by omega
  rcases this with rfl | rfl | rfl | rfl | rfl | rfl | rfl | rfl | rfl | rfl | rfl | rfl | rfl | rfl | rfl | rfl | rfl | rfl | rfl | rfl | rfl | rfl | rfl | rfl | rfl | rfl | rfl | rfl | rfl | rfl <;>
    (unfold wid; simp only [Nat.reducePow] at hr ⊢; repeat' split
     all_goals omega)

theorem numB_head (n : Int) : (numB n)[0]? = some (UInt8.ofNat (wid n)) := by
  unfold numB
  have hw : wid n = 0 ∨ wid n = 1 ∨ wid n = 2 ∨ wid n = 3 ∨ wid n = 4 := by
    unfold wid; repeat' split
    all_goals omega
  rcases hw with hw | hw | hw | hw | hw <;> rw [hw] <;> rfl

theorem u64_tmod (b : Int) : ∃ k : Nat, k < 30 ∧ (IntKind.u64.wrap b).tmod 30 = (k : Int) := by
  have h0 : 0 ≤ IntKind.u64.wrap b := by
    unfold IntKind.wrap
    simp [IntKind.signed, IntKind.bits]; omega
  rw [Int.tmod_eq_emod_of_nonneg h0]
  exact ⟨(IntKind.u64.wrap b % 30).toNat, by omega, by omega⟩
theorem wrapu64 {n : Int} (h : 0 ≤ n) (h' : n < 18446744073709551616) : IntKind.u64.wrap n = n := by
  unfold IntKind.wrap
  simp [IntKind.signed, IntKind.bits]; omega

theorem FieldSizes0 (x b : Int) : ACalls P f_bastionlaw1_FieldSizes [.int .i64 x, .int .i64 b] [] fun v H' => v = .bool true ∧ H' = [] := by
  refine ok_bastionlaw1_FieldSizes.calls (by simp) (run 100 (by simp) ?_)
  unfold c_bastionlaw1_FieldSizes e_bastionlaw1_FieldSizes
  simp only [sgo_some, cgo_true, cgo_false, pgo_some, pgo_none, wgo_true, wgo_false, xgo_some, xgo_none, dsgo_some, dpgo_some, dpgo_none, dqgo_some, dwgo_true, dwgo_false, dwK, DW, recheck, AOp.sync, AOp.looks, retP_ret, retP_normal, toB, exec, argEnv, Holds, step1, aq, aeff, ev, evs, evp, look, callee, wantedA, bind, ibin, sbin, atom, if_true, if_false, reduceIte, resA, resV, exitS, optInt, sliceCells, cellsOf, cellsEq, AObj.cells, AObj.own, AObj.setCells, putCells, fillC, slicing, ifaceEq, Nat.reduceEqDiff, Nat.reduceAdd, Nat.reduceLT, Nat.reduceSub, Nat.reduceMul, Nat.reduceLeDiff, Int.reduceToNat, Int.reduceAdd, Int.reduceLT, Int.reduceLE, Int.toNat_natCast, reduceCtorEq, or_true, or_false, true_or, false_or, true_and, and_true, ne_eq, not_false_eq_true, not_true_eq_false, false_and, and_false, List.getElem?_cons_zero, List.getElem?_cons_succ, List.getElem?_nil, List.length_cons, List.length_nil, List.nil_append, List.cons_append, List.append_nil, beq_self_eq_true, Bool.true_eq_false, Bool.false_eq_true, bne_self_eq_false, Bool.bne_true, Bool.bne_false, Bool.not_true, Bool.not_false, Option.getD_some, Option.getD_none, decide_true, decide_false, List.set_cons_zero, List.set_cons_succ, List.drop_zero, List.drop_succ_cons, List.drop_nil, List.take_zero, List.take_succ_cons, List.take_nil, Nat.add_zero, Nat.zero_add, List.size_toArray, List.all_cons, List.all_nil, oneCell, cells_int, cells_bool, cells_string, cells_pointer, cells_slice, cells_agg, cells_iface, cells_map, cells_func, B_add, B_size, B_list, beqT, beqF, eq_self, bits64, bitsu8, wrapu8, Nat.min_def, Int.reducePow, Int.fdiv_eq_ediv_of_nonneg, Cont, SX, renE, ren, renL, gt_iff_lt, ge_iff_le, decide_eq_true_eq, Int.reduceNeg, Int.neg_neg, bytesOf, Int.reduceEq, Int.reduceBEq, Int.reduceBNe, Nat.reduceBEq, natc0, natc1, natc2, natc3, natc4, Int.reduceMod, List.isEmpty_nil, B_data, B_extract, List.filterMap_cons, List.filterMap_nil, Option.map_some, Nat.sub_zero, Nat.mul_one, List.getElem?_map, and_self, envLe, B_mk, ECode.er, lookV, mfind, mset]
  refine ⟨ok_bastionlaw1_awake.there, (law1_awake _).mono ?_⟩
  rintro v H' ⟨rfl, rfl⟩
  refine run 200 (by simp) ?_
  obtain ⟨k, hk, hkb⟩ := u64_tmod b
  have e1 : IntKind.i64.wrap (k : Int) = k := wrap64 (by omega) (by omega)
  have e2 : IntKind.u64.wrap (k : Int) = k := wrapu64 (by omega) (by omega)
  have e3 : k ≤ 64 := by omega
  have h2 := two_pow_small hk
  have hp : 0 < (2 : Nat) ^ k := Nat.pow_pos (by omega)
  have hc : ((2 ^ k : Nat) : Int) = (2 : Int) ^ k := by simp
  have e4 : IntKind.i64.wrap ((2 : Int) ^ k) = (2 : Int) ^ k := wrap64 (by omega) (by omega)
  have e5 : IntKind.i64.wrap ((2 : Int) ^ k - 1) = (2 : Int) ^ k - 1 := wrap64 (by omega) (by omega)
  obtain ⟨r, hr, hmask⟩ := mask_eq x k hk
  have hor := or_eq k r hk hr
  have hwid := wid_pow k r hk hr
  simp only [sgo_some, cgo_true, cgo_false, pgo_some, pgo_none, wgo_true, wgo_false, xgo_some, xgo_none, dsgo_some, dpgo_some, dpgo_none, dqgo_some, dwgo_true, dwgo_false, dwK, DW, recheck, AOp.sync, AOp.looks, retP_ret, retP_normal, toB, exec, argEnv, Holds, step1, aq, aeff, ev, evs, evp, look, callee, wantedA, bind, ibin, sbin, atom, if_true, if_false, reduceIte, resA, resV, exitS, optInt, sliceCells, cellsOf, cellsEq, AObj.cells, AObj.own, AObj.setCells, putCells, fillC, slicing, ifaceEq, Nat.reduceEqDiff, Nat.reduceAdd, Nat.reduceLT, Nat.reduceSub, Nat.reduceMul, Nat.reduceLeDiff, Int.reduceToNat, Int.reduceAdd, Int.reduceLT, Int.reduceLE, Int.toNat_natCast, reduceCtorEq, or_true, or_false, true_or, false_or, true_and, and_true, ne_eq, not_false_eq_true, not_true_eq_false, false_and, and_false, List.getElem?_cons_zero, List.getElem?_cons_succ, List.getElem?_nil, List.length_cons, List.length_nil, List.nil_append, List.cons_append, List.append_nil, beq_self_eq_true, Bool.true_eq_false, Bool.false_eq_true, bne_self_eq_false, Bool.bne_true, Bool.bne_false, Bool.not_true, Bool.not_false, Option.getD_some, Option.getD_none, decide_true, decide_false, List.set_cons_zero, List.set_cons_succ, List.drop_zero, List.drop_succ_cons, List.drop_nil, List.take_zero, List.take_succ_cons, List.take_nil, Nat.add_zero, Nat.zero_add, List.size_toArray, List.all_cons, List.all_nil, oneCell, cells_int, cells_bool, cells_string, cells_pointer, cells_slice, cells_agg, cells_iface, cells_map, cells_func, B_add, B_size, B_list, beqT, beqF, eq_self, bits64, bitsu8, wrapu8, Nat.min_def, Int.reducePow, Int.fdiv_eq_ediv_of_nonneg, Cont, SX, renE, ren, renL, gt_iff_lt, ge_iff_le, decide_eq_true_eq, Int.reduceNeg, Int.neg_neg, bytesOf, Int.reduceEq, Int.reduceBEq, Int.reduceBNe, Nat.reduceBEq, natc0, natc1, natc2, natc3, natc4, Int.reduceMod, List.isEmpty_nil, B_data, B_extract, List.filterMap_cons, List.filterMap_nil, Option.map_some, Nat.sub_zero, Nat.mul_one, List.getElem?_map, and_self, envLe, B_mk, ECode.er, lookV, mfind, mset, hkb, e1, e2, e3, Int.one_mul, e4, e5, hmask, hor]
  have hn : numOk ((2 ^ k + r : Nat) : Int) := ⟨by omega, by omega⟩
  refine ⟨by omega, ok_field_Num.there, (field_Num _ _).mono ?_⟩
  rintro v H' ⟨rfl, rfl⟩
  refine run 200 (by simp) ?_
  rw [if_pos hn]
  simp only [sgo_some, cgo_true, cgo_false, pgo_some, pgo_none, wgo_true, wgo_false, xgo_some, xgo_none, dsgo_some, dpgo_some, dpgo_none, dqgo_some, dwgo_true, dwgo_false, dwK, DW, recheck, AOp.sync, AOp.looks, retP_ret, retP_normal, toB, exec, argEnv, Holds, step1, aq, aeff, ev, evs, evp, look, callee, wantedA, bind, ibin, sbin, atom, if_true, if_false, reduceIte, resA, resV, exitS, optInt, sliceCells, cellsOf, cellsEq, AObj.cells, AObj.own, AObj.setCells, putCells, fillC, slicing, ifaceEq, Nat.reduceEqDiff, Nat.reduceAdd, Nat.reduceLT, Nat.reduceSub, Nat.reduceMul, Nat.reduceLeDiff, Int.reduceToNat, Int.reduceAdd, Int.reduceLT, Int.reduceLE, Int.toNat_natCast, reduceCtorEq, or_true, or_false, true_or, false_or, true_and, and_true, ne_eq, not_false_eq_true, not_true_eq_false, false_and, and_false, List.getElem?_cons_zero, List.getElem?_cons_succ, List.getElem?_nil, List.length_cons, List.length_nil, List.nil_append, List.cons_append, List.append_nil, beq_self_eq_true, Bool.true_eq_false, Bool.false_eq_true, bne_self_eq_false, Bool.bne_true, Bool.bne_false, Bool.not_true, Bool.not_false, Option.getD_some, Option.getD_none, decide_true, decide_false, List.set_cons_zero, List.set_cons_succ, List.drop_zero, List.drop_succ_cons, List.drop_nil, List.take_zero, List.take_succ_cons, List.take_nil, Nat.add_zero, Nat.zero_add, List.size_toArray, List.all_cons, List.all_nil, oneCell, cells_int, cells_bool, cells_string, cells_pointer, cells_slice, cells_agg, cells_iface, cells_map, cells_func, B_add, B_size, B_list, beqT, beqF, eq_self, bits64, bitsu8, wrapu8, Nat.min_def, Int.reducePow, Int.fdiv_eq_ediv_of_nonneg, Cont, SX, renE, ren, renL, gt_iff_lt, ge_iff_le, decide_eq_true_eq, Int.reduceNeg, Int.neg_neg, bytesOf, Int.reduceEq, Int.reduceBEq, Int.reduceBNe, Nat.reduceBEq, natc0, natc1, natc2, natc3, natc4, Int.reduceMod, List.isEmpty_nil, B_data, B_extract, List.filterMap_cons, List.filterMap_nil, Option.map_some, Nat.sub_zero, Nat.mul_one, List.getElem?_map, and_self, envLe, B_mk, ECode.er, lookV, mfind, mset, tup]
  refine ⟨ok_field_Num.there, (field_Num 0 _).mono ?_⟩
  rintro v H' ⟨rfl, rfl⟩
  refine run 200 (by simp) ?_
  have aw8 : (if numOk 0 then tup [.string (B (numB 0)), .int .i64 0] else tup [.string (B []), .int .i64 100]) = .tuple ⟨[.string (B [0]), .int .i64 0]⟩ := rfl
  rw [aw8]
  simp only [sgo_some, cgo_true, cgo_false, pgo_some, pgo_none, wgo_true, wgo_false, xgo_some, xgo_none, dsgo_some, dpgo_some, dpgo_none, dqgo_some, dwgo_true, dwgo_false, dwK, DW, recheck, AOp.sync, AOp.looks, retP_ret, retP_normal, toB, exec, argEnv, Holds, step1, aq, aeff, ev, evs, evp, look, callee, wantedA, bind, ibin, sbin, atom, if_true, if_false, reduceIte, resA, resV, exitS, optInt, sliceCells, cellsOf, cellsEq, AObj.cells, AObj.own, AObj.setCells, putCells, fillC, slicing, ifaceEq, Nat.reduceEqDiff, Nat.reduceAdd, Nat.reduceLT, Nat.reduceSub, Nat.reduceMul, Nat.reduceLeDiff, Int.reduceToNat, Int.reduceAdd, Int.reduceLT, Int.reduceLE, Int.toNat_natCast, reduceCtorEq, or_true, or_false, true_or, false_or, true_and, and_true, ne_eq, not_false_eq_true, not_true_eq_false, false_and, and_false, List.getElem?_cons_zero, List.getElem?_cons_succ, List.getElem?_nil, List.length_cons, List.length_nil, List.nil_append, List.cons_append, List.append_nil, beq_self_eq_true, Bool.true_eq_false, Bool.false_eq_true, bne_self_eq_false, Bool.bne_true, Bool.bne_false, Bool.not_true, Bool.not_false, Option.getD_some, Option.getD_none, decide_true, decide_false, List.set_cons_zero, List.set_cons_succ, List.drop_zero, List.drop_succ_cons, List.drop_nil, List.take_zero, List.take_succ_cons, List.take_nil, Nat.add_zero, Nat.zero_add, List.size_toArray, List.all_cons, List.all_nil, oneCell, cells_int, cells_bool, cells_string, cells_pointer, cells_slice, cells_agg, cells_iface, cells_map, cells_func, B_add, B_size, B_list, beqT, beqF, eq_self, bits64, bitsu8, wrapu8, Nat.min_def, Int.reducePow, Int.fdiv_eq_ediv_of_nonneg, Cont, SX, renE, ren, renL, gt_iff_lt, ge_iff_le, decide_eq_true_eq, Int.reduceNeg, Int.neg_neg, bytesOf, Int.reduceEq, Int.reduceBEq, Int.reduceBNe, Nat.reduceBEq, natc0, natc1, natc2, natc3, natc4, Int.reduceMod, List.isEmpty_nil, B_data, B_extract, List.filterMap_cons, List.filterMap_nil, Option.map_some, Nat.sub_zero, Nat.mul_one, List.getElem?_map, and_self, envLe, B_mk, ECode.er, lookV, mfind, mset]
  refine ⟨ok_bastionlaw0_Num.there, (law0_Num _ (by omega) (by omega) _).mono ?_⟩
  rintro v H' ⟨rfl, rfl⟩
  refine run 200 (by simp) ?_
  have e6 : IntKind.i64.wrap ((k : Int).tdiv 8 + 2) = ((k / 8 + 2 : Nat) : Int) := by
    rw [Int.tdiv_eq_ediv_of_nonneg (by omega), wrap64 (by omega) (by omega)]; omega
  have e7 : IntKind.i64.wrap ((k : Int).tdiv 8 + 1) = ((k / 8 + 1 : Nat) : Int) := by
    rw [Int.tdiv_eq_ediv_of_nonneg (by omega), wrap64 (by omega) (by omega)]; omega
  have hlen := numB_len ((2 ^ k + r : Nat) : Int)
  rw [hwid] at hlen
  have hhead := numB_head ((2 ^ k + r : Nat) : Int)
  rw [hwid] at hhead
  generalize numB ((2 ^ k + r : Nat) : Int) = nb at *
  have e8 : IntKind.i64.wrap ((k : Int).tdiv 8) = (k : Int).tdiv 8 := by
    rw [Int.tdiv_eq_ediv_of_nonneg (by omega)]; exact wrap64 (by omega) (by omega)
  have e9 : IntKind.i64.wrap ((UInt8.ofNat (k / 8 + 1)).toNat : Int) = ((k / 8 + 1 : Nat) : Int) := by
    have : (UInt8.ofNat (k / 8 + 1)).toNat = k / 8 + 1 := by
      rw [UInt8.toNat_ofNat']; exact Nat.mod_eq_of_lt (by omega)
    rw [this]; exact wrap64 (by omega) (by omega)
  simp only [sgo_some, cgo_true, cgo_false, pgo_some, pgo_none, wgo_true, wgo_false, xgo_some, xgo_none, dsgo_some, dpgo_some, dpgo_none, dqgo_some, dwgo_true, dwgo_false, dwK, DW, recheck, AOp.sync, AOp.looks, retP_ret, retP_normal, toB, exec, argEnv, Holds, step1, aq, aeff, ev, evs, evp, look, callee, wantedA, bind, ibin, sbin, atom, if_true, if_false, reduceIte, resA, resV, exitS, optInt, sliceCells, cellsOf, cellsEq, AObj.cells, AObj.own, AObj.setCells, putCells, fillC, slicing, ifaceEq, Nat.reduceEqDiff, Nat.reduceAdd, Nat.reduceLT, Nat.reduceSub, Nat.reduceMul, Nat.reduceLeDiff, Int.reduceToNat, Int.reduceAdd, Int.reduceLT, Int.reduceLE, Int.toNat_natCast, reduceCtorEq, or_true, or_false, true_or, false_or, true_and, and_true, ne_eq, not_false_eq_true, not_true_eq_false, false_and, and_false, List.getElem?_cons_zero, List.getElem?_cons_succ, List.getElem?_nil, List.length_cons, List.length_nil, List.nil_append, List.cons_append, List.append_nil, beq_self_eq_true, Bool.true_eq_false, Bool.false_eq_true, bne_self_eq_false, Bool.bne_true, Bool.bne_false, Bool.not_true, Bool.not_false, Option.getD_some, Option.getD_none, decide_true, decide_false, List.set_cons_zero, List.set_cons_succ, List.drop_zero, List.drop_succ_cons, List.drop_nil, List.take_zero, List.take_succ_cons, List.take_nil, Nat.add_zero, Nat.zero_add, List.size_toArray, List.all_cons, List.all_nil, oneCell, cells_int, cells_bool, cells_string, cells_pointer, cells_slice, cells_agg, cells_iface, cells_map, cells_func, B_add, B_size, B_list, beqT, beqF, eq_self, bits64, bitsu8, wrapu8, Nat.min_def, Int.reducePow, Int.fdiv_eq_ediv_of_nonneg, Cont, SX, renE, ren, renL, gt_iff_lt, ge_iff_le, decide_eq_true_eq, Int.reduceNeg, Int.neg_neg, bytesOf, Int.reduceEq, Int.reduceBEq, Int.reduceBNe, Nat.reduceBEq, natc0, natc1, natc2, natc3, natc4, Int.reduceMod, List.isEmpty_nil, B_data, B_extract, List.filterMap_cons, List.filterMap_nil, Option.map_some, Nat.sub_zero, Nat.mul_one, List.getElem?_map, and_self, envLe, B_mk, ECode.er, lookV, mfind, mset, hlen, e6, e7, e8, e9, hhead]
  refine ⟨by omega, ok_bastionlaw0_Num.there, (law0_Num _ (by omega) (by omega) _).mono ?_⟩
  rintro v H' ⟨rfl, rfl⟩
  refine run 200 (by simp) ?_
  simp only [sgo_some, cgo_true, cgo_false, pgo_some, pgo_none, wgo_true, wgo_false, xgo_some, xgo_none, dsgo_some, dpgo_some, dpgo_none, dqgo_some, dwgo_true, dwgo_false, dwK, DW, recheck, AOp.sync, AOp.looks, retP_ret, retP_normal, toB, exec, argEnv, Holds, step1, aq, aeff, ev, evs, evp, look, callee, wantedA, bind, ibin, sbin, atom, if_true, if_false, reduceIte, resA, resV, exitS, optInt, sliceCells, cellsOf, cellsEq, AObj.cells, AObj.own, AObj.setCells, putCells, fillC, slicing, ifaceEq, Nat.reduceEqDiff, Nat.reduceAdd, Nat.reduceLT, Nat.reduceSub, Nat.reduceMul, Nat.reduceLeDiff, Int.reduceToNat, Int.reduceAdd, Int.reduceLT, Int.reduceLE, Int.toNat_natCast, reduceCtorEq, or_true, or_false, true_or, false_or, true_and, and_true, ne_eq, not_false_eq_true, not_true_eq_false, false_and, and_false, List.getElem?_cons_zero, List.getElem?_cons_succ, List.getElem?_nil, List.length_cons, List.length_nil, List.nil_append, List.cons_append, List.append_nil, beq_self_eq_true, Bool.true_eq_false, Bool.false_eq_true, bne_self_eq_false, Bool.bne_true, Bool.bne_false, Bool.not_true, Bool.not_false, Option.getD_some, Option.getD_none, decide_true, decide_false, List.set_cons_zero, List.set_cons_succ, List.drop_zero, List.drop_succ_cons, List.drop_nil, List.take_zero, List.take_succ_cons, List.take_nil, Nat.add_zero, Nat.zero_add, List.size_toArray, List.all_cons, List.all_nil, oneCell, cells_int, cells_bool, cells_string, cells_pointer, cells_slice, cells_agg, cells_iface, cells_map, cells_func, B_add, B_size, B_list, beqT, beqF, eq_self, bits64, bitsu8, wrapu8, Nat.min_def, Int.reducePow, Int.fdiv_eq_ediv_of_nonneg, Cont, SX, renE, ren, renL, gt_iff_lt, ge_iff_le, decide_eq_true_eq, Int.reduceNeg, Int.neg_neg, bytesOf, Int.reduceEq, Int.reduceBEq, Int.reduceBNe, Nat.reduceBEq, natc0, natc1, natc2, natc3, natc4, Int.reduceMod, List.isEmpty_nil, B_data, B_extract, List.filterMap_cons, List.filterMap_nil, Option.map_some, Nat.sub_zero, Nat.mul_one, List.getElem?_map, and_self, envLe, B_mk, ECode.er, lookV, mfind, mset, r_bastionlaw1_FieldSizes]
  exact ⟨_, _, rfl, by simp, rfl⟩
end Go.Abs
