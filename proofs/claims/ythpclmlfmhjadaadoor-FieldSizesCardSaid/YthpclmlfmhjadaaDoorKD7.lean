/- bastionlaw1.FieldSizes returns true at every input and leaves its arguments as they are; no condition but the row's own (the listed variable starts as the program's text lays it: tied). -/
import Derived.Test.YthpclmlfmhjadaaDoorKD6
namespace Go.Proofs.YthpclmlfmhjadaaDoor
open Go
theorem fieldSizes_card : Rows.FieldSizesCardSaid :=
  Claim7.holds_tied_plain_at .later [] [.handle] true (true, "6034869cb4d05010a5a4f99100468a09433c7b089f022025dc2b71db3ed00a11") true
    fieldSizes_holds (fun _ h => by cases h) (by kernel_rfl) (fun _ h => by cases h) fieldSizes_row_tie rfl ⟨rfl, rfl⟩ (by kernel_rfl) rfl
    (fun f fn hf hfn => by
      obtain rfl : f = 3 := Option.some.inj ((show Tryd.prog.funcNamed "bastion/bastionlaw1.FieldSizes" = some 3 by kernel_rfl).symm.trans hf) |>.symm
      obtain rfl : fn = Tryd.f3 := (Option.some.inj (Tryd.func3.symm.trans hfn)).symm
      exact ⟨by kernel_rfl, fun j t ht => by
        rw [Tryd.params3] at ht
        have h3 : t = 3 := by
          rcases j with _ | _ | j
          · simpa using ht.symm
          · simpa using ht.symm
          · simp at ht
        subst h3
        exact (show Tryd.prog.wantsStandIn 3 = false by kernel_rfl)⟩)
    (by kernel_rfl)
#print axioms fieldSizes_card
end Go.Proofs.YthpclmlfmhjadaaDoor
