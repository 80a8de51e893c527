/- bastionlaw1.FieldChains returns true at every input and leaves its arguments as they are; no condition but the row's own (the listed variable starts as the program's text lays it: tied). -/
import Derived.Test.YthpclmlfmhjadaaDoorKP4
namespace Go.Proofs.YthpclmlfmhjadaaDoor
open Go
theorem fieldChains_card : Rows.FieldChainsCardSaid :=
  Claim7.holds_tied_plain_at .later [] [.handle] true (true, "6034869cb4d05010a5a4f99100468a09433c7b089f022025dc2b71db3ed00a11") true
    fieldChains_holds (fun _ h => by cases h) (by kernel_rfl) (fun _ h => by cases h) fieldChains_row_tie rfl ⟨rfl, rfl⟩ (by kernel_rfl) rfl
    (fun f fn hf hfn => by
      obtain rfl : f = 4 := Option.some.inj ((show Tryd.prog.funcNamed "bastion/bastionlaw1.FieldChains" = some 4 by kernel_rfl).symm.trans hf) |>.symm
      obtain rfl : fn = Tryd.f4 := (Option.some.inj (Tryd.func4.symm.trans hfn)).symm
      exact ⟨by kernel_rfl, fun j t ht => by
        rw [Tryd.params4] at ht
        rcases j with _ | _ | j
        · obtain rfl : t = 29 := by simpa using ht.symm
          exact (show Tryd.prog.wantsStandIn 29 = false by kernel_rfl)
        · obtain rfl : t = 30 := by simpa using ht.symm
          exact (show Tryd.prog.wantsStandIn 30 = false by kernel_rfl)
        · simp at ht⟩)
    (by kernel_rfl)
#print axioms fieldChains_card
end Go.Proofs.YthpclmlfmhjadaaDoor
