import Derived.Test.YthpclmlfmhjadaaTb
import Derived.Test.YthpclmlfmhjadaaFw31
set_option linter.unusedSimpArgs false
set_option linter.unusedVariables false
namespace Go.Abs
set_option maxRecDepth 10000

/-- The code of slices.Clone, at any elements. -/
def cloneE (T sz bytes : Nat) : ECode := (.seq (.ops [⟨(some 2), (.mv (.const (.slice none 0 0))), none⟩]) (.seq (.seq (.ops [⟨(some 3), (.mv (.tmp 0)), none⟩, ⟨(some 4), (.eqNil false (.tmp 3)), none⟩]) (.cond (.tmp 4) (.seq (.ops [⟨(some 2), (.mv (.const (.slice none 0 0))), none⟩]) .ret) .skip)) (.seq (.ops [⟨(some 5), (.bslice 0 [] [] T), none⟩, ⟨(some 6), (.mv (.tmp 0)), none⟩, ⟨(some 7), (.app false sz bytes T (.tmp 5) (.tmp 6)), none⟩, ⟨(some 2), (.mv (.tmp 7)), none⟩]) .ret)))

theorem clone_some {f N T sz bytes : Nat} (ok : FunOk P [] f N (cloneE T sz bytes).er [.mv (.tmp 2)]) (hN : 1 ≤ N) (H : AHeap) (q : Option Addr) (n c : Nat) (cells : List Value) (C : Prop) (hC : C) (hn : 0 < n) (hb : n * bytes ≤ 70368744177664) (hn2 : n ≤ 70368744177664)
    (hs : sliceCells (H ++ [.blk [] T]) sz (.slice q n c) = some (C, cells)) :
    ACalls P f [.slice q n c] H fun v H' => v = .slice (some ⟨H.length + 1, 0, none⟩) n HID ∧ H' = H ++ [.dead, .row sz cells T] := by
  refine ok.calls (by simpa using hN) (run 200 (by simp) ?_)
  unfold cloneE
  have hn0 : ¬ n = 0 := by omega
  have hget : (H ++ [AObj.blk [] T])[H.length]? = some (.blk [] T) := by simp
  have hset : (H ++ [AObj.blk [] T]).set H.length .dead = H ++ [.dead] := by simp
  have hlen : (H ++ [AObj.blk [] T]).length = H.length + 1 := by simp
  have happ : H ++ [AObj.dead] ++ [AObj.row sz cells T] = H ++ [.dead, .row sz cells T] := by simp
  have hz : (0 : Nat) * sz = 0 := Nat.zero_mul _
  simp only [Q1, Q2, Q3, toB, exec, argEnv, Holds, step1, aq, aeff, ev, evs, evp, look, callee, wantedA, bind, ibin, sbin, atom, resA, resV, exitS, optInt, cellsEq, AObj.own, AObj.setCells, putCells, fillC, slicing, ifaceEq, oneCell, Cont, SX, renE, ren, renL, bytesOf, dwK, DW, recheck, AOp.sync, AOp.looks, envLe, ECode.er, lookV, mfind, mset, ite_self, Int.cast_ofNat_Int, if_true, if_false, reduceIte, or_true, or_false, true_or, false_or, true_and, and_true, false_and, and_false, and_self, not_false_eq_true, not_true_eq_false, ne_eq, eq_self, reduceCtorEq, decide_true, decide_false, decide_eq_true_eq, beq_self_eq_true, bne_self_eq_false, Bool.true_eq_false, Bool.false_eq_true, Bool.bne_true, Bool.bne_false, Bool.not_true, Bool.not_false, Bool.and_self, Bool.and_true, Option.getD_some, Option.getD_none, Option.map_some, gt_iff_lt, ge_iff_le, Nat.reduceEqDiff, Nat.reduceAdd, Nat.reduceLT, Nat.reduceSub, Nat.reduceMul, Nat.reduceLeDiff, Nat.reduceBEq, Nat.add_zero, Nat.zero_add, Nat.sub_zero, Nat.mul_one, Nat.min_def, Int.reduceToNat, Int.reduceAdd, Int.reduceLT, Int.reduceLE, Int.reduceEq, Int.reduceBEq, Int.reduceBNe, Int.reduceNeg, Int.reduceMod, Int.reducePow, Int.neg_neg, Int.toNat_natCast, Int.fdiv_eq_ediv_of_nonneg, hn0, hs, hget, hset, hlen, happ, hz]
  exact ⟨⟨hC, hb, hn2⟩, _, _, rfl, trivial, rfl⟩

theorem clone_none {f N T sz bytes : Nat} (ok : FunOk P [] f N (cloneE T sz bytes).er [.mv (.tmp 2)]) (hN : 1 ≤ N) (H : AHeap) (q : Option Addr) (c : Nat) (C : Prop) (hC : C) (hs : sliceCells (H ++ [.blk [] T]) sz (.slice q 0 c) = some (C, [])) :
    ACalls P f [.slice q 0 c] H fun v H' => v = .slice none 0 0 ∧ (H' = H ∨ H' = H ++ [.blk [] T]) := by
  refine ACalls.weak (R := fun v H' => (v = .slice none 0 0 ∧ H' = H) ∨ (v = .slice (some ⟨H.length, 0, none⟩) 0 0 ∧ H' = H ++ [.blk [] T])) ?_ ?_
  · refine ok.calls (by simpa using hN) ?_
    unfold cloneE
    simp only [ECode.er]
    refine sw_seq ?_
    refine sw_region ?_
    refine sw_ops_step (Nat.le_refl _) rfl rfl trivial ?_
    refine sw_ops_nil ?_
    refine sw_seq ?_
    refine sw_seq ?_
    refine sw_region ?_
    refine sw_ops_step (Nat.le_refl _) rfl rfl trivial ?_
    refine sw_eqNil (q := q) (n := 0) (c := c) (Nat.le_refl _) rfl fun b => ?_
    cases b with
    | true =>
      refine run 200 (by simp) ?_
      simp only [Q1, Q2, Q3, toB, exec, argEnv, Holds, step1, aq, aeff, ev, evs, evp, look, callee, wantedA, bind, ibin, sbin, atom, resA, resV, exitS, optInt, sliceCells, cellsOf, cellsEq, AObj.cells, AObj.own, AObj.setCells, putCells, fillC, slicing, ifaceEq, oneCell, Cont, SX, renE, ren, renL, bytesOf, dwK, DW, recheck, AOp.sync, AOp.looks, envLe, ECode.er, lookV, mfind, mset, ite_self, Int.cast_ofNat_Int, if_true, if_false, reduceIte, or_true, or_false, true_or, false_or, true_and, and_true, false_and, and_false, and_self, not_false_eq_true, not_true_eq_false, ne_eq, eq_self, reduceCtorEq, decide_true, decide_false, decide_eq_true_eq, beq_self_eq_true, bne_self_eq_false, Bool.true_eq_false, Bool.false_eq_true, Bool.bne_true, Bool.bne_false, Bool.not_true, Bool.not_false, Bool.and_self, Bool.and_true, Option.getD_some, Option.getD_none, Option.map_some, gt_iff_lt, ge_iff_le, Nat.reduceEqDiff, Nat.reduceAdd, Nat.reduceLT, Nat.reduceSub, Nat.reduceMul, Nat.reduceLeDiff, Nat.reduceBEq, Nat.add_zero, Nat.zero_add, Nat.sub_zero, Nat.mul_one, Nat.min_def, Int.reduceToNat, Int.reduceAdd, Int.reduceLT, Int.reduceLE, Int.reduceEq, Int.reduceBEq, Int.reduceBNe, Int.reduceNeg, Int.reduceMod, Int.reducePow, Int.neg_neg, Int.toNat_natCast, Int.fdiv_eq_ediv_of_nonneg]
      exact ⟨_, _, rfl, trivial, .inl rfl⟩
    | false =>
      refine run 200 (by simp) ?_
      have hget : (H ++ [AObj.blk [] T])[H.length]? = some (.blk [] T) := by simp
      have hz : (0 : Nat) * sz = 0 := Nat.zero_mul _
      simp only [Q1, Q2, Q3, toB, exec, argEnv, Holds, step1, aq, aeff, ev, evs, evp, look, callee, wantedA, bind, ibin, sbin, atom, resA, resV, exitS, optInt, cellsEq, AObj.own, AObj.setCells, putCells, fillC, slicing, ifaceEq, oneCell, Cont, SX, renE, ren, renL, bytesOf, dwK, DW, recheck, AOp.sync, AOp.looks, envLe, ECode.er, lookV, mfind, mset, ite_self, Int.cast_ofNat_Int, if_true, if_false, reduceIte, or_true, or_false, true_or, false_or, true_and, and_true, false_and, and_false, and_self, not_false_eq_true, not_true_eq_false, ne_eq, eq_self, reduceCtorEq, decide_true, decide_false, decide_eq_true_eq, beq_self_eq_true, bne_self_eq_false, Bool.true_eq_false, Bool.false_eq_true, Bool.bne_true, Bool.bne_false, Bool.not_true, Bool.not_false, Bool.and_self, Bool.and_true, Option.getD_some, Option.getD_none, Option.map_some, gt_iff_lt, ge_iff_le, Nat.reduceEqDiff, Nat.reduceAdd, Nat.reduceLT, Nat.reduceSub, Nat.reduceMul, Nat.reduceLeDiff, Nat.reduceBEq, Nat.add_zero, Nat.zero_add, Nat.sub_zero, Nat.mul_one, Nat.min_def, Int.reduceToNat, Int.reduceAdd, Int.reduceLT, Int.reduceLE, Int.reduceEq, Int.reduceBEq, Int.reduceBNe, Int.reduceNeg, Int.reduceMod, Int.reducePow, Int.neg_neg, Int.toNat_natCast, Int.fdiv_eq_ediv_of_nonneg, hs, hget, hz]
      exact ⟨hC, _, _, rfl, trivial, .inr rfl⟩
  · rintro v H' (⟨rfl, rfl⟩ | ⟨rfl, rfl⟩)
    · exact ⟨_, fun _ _ h => h, rfl, .inl rfl⟩
    · refine ⟨.slice none 0 0, fun ρ v' h => ?_, rfl, .inr rfl⟩
      cases h with
      | atom h => simp [atom] at h
      | slice => exact .sliceN

/-- For the evaluator: a clone of nothing. -/
theorem clone_zero {f N T sz bytes : Nat} (ok : FunOk P [] f N (cloneE T sz bytes).er [.mv (.tmp 2)]) (hN : 1 ≤ N) (H : AHeap) (q : Option Addr) (c : Nat) (hs : ∃ C, sliceCells (H ++ [.blk [] T]) sz (.slice q 0 c) = some (C, []) ∧ C) :
    ACalls P f [.slice q 0 c] H fun v H' => v = .slice none 0 0 ∧ H' = H ++ [.dead] := by
  obtain ⟨C, hs, hC⟩ := hs
  refine ACalls.conv (clone_none ok hN H q c C hC hs) ?_
  rintro v H' ⟨rfl, h⟩
  rcases h with rfl | rfl
  · refine ⟨Nat.le_refl _, _, _, ⟨rfl, rfl⟩, fun ρ Pr h0 w v' hv hm => ⟨_, fun i hi => ?_, hv.mono (le_ext (hm.bound _ (Nat.le_refl _))), hm.addDead⟩⟩
    simp [ext, Nat.ne_of_lt hi]
  · refine ⟨by simp, _, _, ⟨rfl, rfl⟩, fun ρ Pr h0 w v' hv hm => ⟨ρ, fun _ _ => rfl, hv, ?_⟩⟩
    have := hm.kill H.length
    simpa using this

/-- The evaluator's clones: the elements' type, size, bytes of each. -/
def cloneO (tab : List (Nat × Nat × Nat × Nat)) : ECal := fun f args H =>
  match tab.find? (fun x => Nat.beq x.1 f) with
  | some (_, T, sz, bytes) => (match args with
    | [.slice q n c] => (match sliceCells (H ++ [.blk [] T]) sz (.slice q n c) with
      | some (_, cells) => if (scB (H ++ [.blk [] T]) sz (.slice q n c) && nl (n * bytes) 70368744177664 && nl n 70368744177664) = true then
          (if Nat.beq n 0 = true then (match cells with | [] => some (.slice none 0 0, H ++ [.dead]) | _ => none) else some (.slice (some ⟨H.length + 1, 0, none⟩) n HID, H ++ [.dead, .row sz cells T])) else none
      | none => none)
    | _ => none)
  | none => none

theorem cloneO_ok {tab : List (Nat × Nat × Nat × Nat)} (h : ∀ x ∈ tab, ∃ N, 1 ≤ N ∧ FunOk P [] x.1 N (cloneE x.2.1 x.2.2.1 x.2.2.2).er [.mv (.tmp 2)]) : CalOk P (cloneO tab) := by
  intro f args H v H' hc
  unfold cloneO at hc
  split at hc
  · rename_i f' T sz bytes hf
    have hmem := List.mem_of_find?_eq_some hf
    have hb := List.find?_some hf
    have hff : f' = f := Nat.eq_of_beq_eq_true hb
    subst hff
    obtain ⟨N, hN, ok⟩ := h _ hmem
    split at hc
    · rename_i q n c
      split at hc
      · rename_i C cells hs
        split at hc
        · rename_i hb
          simp only [Bool.and_eq_true, nl_iff] at hb
          have hC := scB_ok hb.1.1 hs
          split at hc
          · rename_i hn
            have hn0 : n = 0 := Nat.eq_of_beq_eq_true hn
            subst hn0
            split at hc
            · cases hc
              exact ⟨by simp, ok.there, clone_zero ok hN H q c ⟨C, hs, hC⟩⟩
            · cases hc
          · rename_i hn
            have hn0 : 0 < n := by
              rcases Nat.eq_zero_or_pos n with h | h
              · subst h; simp at hn
              · exact h
            cases hc
            exact ⟨by simp, ok.there, clone_some ok hN H q n c cells C hC hn0 hb.1.2 hb.2 hs⟩
        · cases hc
      · cases hc
    · cases hc
  · cases hc

def cloneTab : List (Nat × Nat × Nat × Nat) := [(82, 81, 9, 72), (83, 86, 4, 32), (84, 90, 3, 24), (85, 3, 1, 8)]
theorem cloneTab_ok : ∀ x ∈ cloneTab, ∃ N, 1 ≤ N ∧ FunOk P [] x.1 N (cloneE x.2.1 x.2.2.1 x.2.2.2).er [.mv (.tmp 2)] := by
  intro x hx
  simp only [cloneTab, List.mem_cons, List.not_mem_nil, or_false] at hx
  rcases hx with rfl | rfl | rfl | rfl
  · exact ⟨8, by omega, ok_slices_Clone_User⟩
  · exact ⟨8, by omega, ok_slices_Clone_Session⟩
  · exact ⟨8, by omega, ok_slices_Clone_Address⟩
  · exact ⟨8, by omega, ok_slices_Clone_int⟩
def O1 : ECal := cloneO cloneTab
theorem O1_ok : CalOk P O1 := cloneO_ok cloneTab_ok
end Go.Abs
