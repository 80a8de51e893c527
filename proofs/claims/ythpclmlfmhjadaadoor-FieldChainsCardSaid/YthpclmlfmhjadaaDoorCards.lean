/-
  DERIVED. GIVEN WITH THE SEED: THE CARDS: each row of YthpclmlfmhjadaaDoorRows.lean that lists a variable, with what it lists TIED to the program's text (the seventh form; the later family's looks); each row that meets fmt, with fmt's text TOLD by the authors' own Lean function (tested against real Go, not proved from fmt's source: count such statements apart). THE CARD IS WHAT COUNTS. Prove the row's statement (the work); the ties are given (YthpclmlfmhjadaaDoorTie.lean); close each card by the builder's one call (the guide's Derived/Test/ToyasCard.lean, 'card_holds'). Laid BY PROGRAM, IN A SANDBOX (cutbox-door.mjs). By AI agents, Wed Nov 11 2026. No macro, syntax, notation, axiom, sorry.
-/
import Derived.Test.YthpclmlfmhjadaaDoorRows
import GoSem.ClaimSeven
namespace Go.Proofs.YthpclmlfmhjadaaDoor
namespace Rows

/-- THE TIED CARD OF 'bastionlaw1.FieldSizes'. -/
def fieldSizesCard : Claim7 := { stood := { row := fieldSizesRow, standIns := [], harness := (true, "6034869cb4d05010a5a4f99100468a09433c7b089f022025dc2b71db3ed00a11"), looks := true }, kinds := [], alts := [], laidByText := true, laidKinds := [.handle], laidTests := true, laidLooks := .later }
def FieldSizesCardSaid : Prop := Claim7.holds Tryd.pinned (.plain (OpenSpec.ofChange fieldSizesSpec)) fieldSizesCard

/-- THE TIED CARD OF 'bastionlaw1.FieldChains'. -/
def fieldChainsCard : Claim7 := { stood := { row := fieldChainsRow, standIns := [], harness := (true, "6034869cb4d05010a5a4f99100468a09433c7b089f022025dc2b71db3ed00a11"), looks := true }, kinds := [], alts := [], laidByText := true, laidKinds := [.handle], laidTests := true, laidLooks := .later }
def FieldChainsCardSaid : Prop := Claim7.holds Tryd.pinned (.plain (OpenSpec.ofChange fieldChainsSpec)) fieldChainsCard

/-- THE TIED CARD OF 'bastionlaw1.FieldForms'. -/
def fieldFormsCard : Claim7 := { stood := { row := fieldFormsRow, standIns := [], harness := (true, "6034869cb4d05010a5a4f99100468a09433c7b089f022025dc2b71db3ed00a11"), looks := true }, kinds := [], alts := [], laidByText := true, laidKinds := [.handle], laidTests := true, laidLooks := .later }
def FieldFormsCardSaid : Prop := Claim7.holds Tryd.pinned (.plain (OpenSpec.ofChange fieldFormsSpec)) fieldFormsCard

/-- THE SECOND FORM's CARD OF 'bastionlaw1.FieldSizes'. -/
def fieldSizesUptoCard : Claim7 := { stood := { row := fieldSizesUptoRow, standIns := [], harness := (true, "6034869cb4d05010a5a4f99100468a09433c7b089f022025dc2b71db3ed00a11"), looks := true }, kinds := [], alts := [], laidByText := true, laidKinds := [.handle], laidTests := true, laidLooks := .later }
def FieldSizesUptoCardSaid : Prop := Claim7.holds Tryd.pinned (.plain (OpenSpec.upto fieldSizesSpec)) fieldSizesUptoCard

/-- THE SECOND FORM's CARD OF 'bastionlaw1.FieldChains'. -/
def fieldChainsUptoCard : Claim7 := { stood := { row := fieldChainsUptoRow, standIns := [], harness := (true, "6034869cb4d05010a5a4f99100468a09433c7b089f022025dc2b71db3ed00a11"), looks := true }, kinds := [], alts := [], laidByText := true, laidKinds := [.handle], laidTests := true, laidLooks := .later }
def FieldChainsUptoCardSaid : Prop := Claim7.holds Tryd.pinned (.plain (OpenSpec.upto fieldChainsSpec)) fieldChainsUptoCard

/-- THE SECOND FORM's CARD OF 'bastionlaw1.FieldForms'. -/
def fieldFormsUptoCard : Claim7 := { stood := { row := fieldFormsUptoRow, standIns := [], harness := (true, "6034869cb4d05010a5a4f99100468a09433c7b089f022025dc2b71db3ed00a11"), looks := true }, kinds := [], alts := [], laidByText := true, laidKinds := [.handle], laidTests := true, laidLooks := .later }
def FieldFormsUptoCardSaid : Prop := Claim7.holds Tryd.pinned (.plain (OpenSpec.upto fieldFormsSpec)) fieldFormsUptoCard
end Rows
end Go.Proofs.YthpclmlfmhjadaaDoor
