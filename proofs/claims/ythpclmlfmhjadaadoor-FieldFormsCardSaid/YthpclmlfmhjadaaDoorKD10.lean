/- bastionlaw1.FieldForms returns true at every input and leaves its arguments as they are; no condition but the row's own (the listed variable starts as the program's text lays it: tied). -/
import Derived.Test.YthpclmlfmhjadaaDoorKD9
namespace Go.Proofs.YthpclmlfmhjadaaDoor
open Go
theorem fieldForms_card : Rows.FieldFormsCardSaid :=
  Claim7.holds_tied_plain_at .later [] [.handle] true (true, "6034869cb4d05010a5a4f99100468a09433c7b089f022025dc2b71db3ed00a11") true
    fieldForms_holds (fun _ h => by cases h) (by kernel_rfl) (fun _ h => by cases h) fieldForms_row_tie rfl ⟨rfl, rfl⟩ (by kernel_rfl) rfl
    (fun f fn hf hfn => by
      obtain rfl : f = 5 := Option.some.inj ((show Tryd.prog.funcNamed "bastion/bastionlaw1.FieldForms" = some 5 by kernel_rfl).symm.trans hf) |>.symm
      obtain rfl : fn = Tryd.f5 := (Option.some.inj (Tryd.func5.symm.trans hfn)).symm
      exact ⟨by kernel_rfl, fun j t ht => by
        rw [Tryd.params5] at ht
        have h3 : t = 3 := by
          rcases j with _ | _ | j
          · simpa using ht.symm
          · simpa using ht.symm
          · simp at ht
        subst h3
        exact (show Tryd.prog.wantsStandIn 3 = false by kernel_rfl)⟩)
    (by kernel_rfl)
#print axioms fieldForms_card
end Go.Proofs.YthpclmlfmhjadaaDoor
