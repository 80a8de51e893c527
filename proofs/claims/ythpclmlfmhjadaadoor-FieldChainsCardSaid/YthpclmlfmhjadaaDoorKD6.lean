import Derived.Test.YthpclmlfmhjadaaDoorKD5
import Derived.Test.YthpclmlfmhjadaaDoorCards
import Derived.Test.YthpclmlfmhjadaaDoorTie
import Derived.Test.YthpclmlfmhjadaaDoorChecked
import Derived.ChangeSame
import Derived.ChangeVars
import Derived.JoinedOf
import Derived.RowKit
import Derived.RowKitTokens
import Derived.LaidLaws
import Derived.LaidHandle
import Derived.Stop.Joined
import Derived.SevenTiedAt
namespace Go.Proofs.YthpclmlfmhjadaaDoor
open Go.ChangeShapes Go.WideShapes Go.RowKit
open Go.Abs (ACalls Models Keep VsRel)

theorem own : ownKnob Tryd.prog.godebug = none := by kernel_rfl
theorem et : Tryd.prog.globalNamed "errors.errorType" = some 0 := by kernel_rfl
theorem rt : (Tryd.prog.cutTypes.find? (·.1 == "internal/reflectlite.rtype")).map (·.2) = some 65 := by kernel_rfl
theorem oneRow : ((List.range Tryd.prog.types.size).filter fun t => Tryd.prog.rowNamed t [101, 114, 114, 111, 114]) = [41] := by kernel_rfl

/-- WHAT THE CONDITION GIVES A WALK: the variable's one cell. -/
theorem handle_of_laid {W : World} (h : laidMetH Tryd.prog Rows.fieldSizesRow.laid W) : W.cell? ⟨0, 0, none⟩ = some (.iface 65 (.agg #[.pointer (some ⟨1, 41, none⟩)])) := by
  have h' : laidMet Tryd.prog [] W ∧ handlesMet Tryd.prog Rows.fieldSizesRow.laid W := h
  obtain ⟨name, u, ty, e1, e2, e3, e4, e5⟩ := h'.2 _ (List.mem_singleton.2 rfl)
  have en : name = [101, 114, 114, 111, 114] := (Option.some.inj e1).symm
  subst en
  obtain rfl := Option.some.inj (rt.symm.trans e2)
  have hm : ty ∈ (List.range Tryd.prog.types.size).filter fun t => Tryd.prog.rowNamed t [101, 114, 114, 111, 114] := List.mem_filter.2 ⟨List.mem_range.2 e3, e4⟩
  rw [oneRow] at hm
  obtain rfl := List.mem_singleton.1 hm
  have hh : typeHandle Tryd.prog 41 = .pointer (some ⟨1, 41, none⟩) := by kernel_rfl
  rw [hh] at e5
  simpa using World.var?_cell et e5 0

noncomputable def laidWorld (os : Os) : World :=
  let w0 := World.holding Tryd.prog os ⟨#[], #[], []⟩
  { w0 with heap := w0.heap.modify 0 fun
      | .cells _ t frozen => .cells #[.iface 65 (.agg #[.pointer (some ⟨1, 41, none⟩)])] t frozen
      | o => o }
theorem laidWorld_met (os : Os) (args : Array Value) : laidMetH Tryd.prog Rows.fieldSizesRow.laid ((laidWorld os).forCall (fun _ _ => 0) ⟨#[], args, []⟩).memory :=
  laidMetH_of_parts (laidMet_nil _ _) (by kernel_rfl)

theorem models0 (W : World) (hg : W.cell? ⟨0, 0, none⟩ = some (.iface 65 (.agg #[.pointer (some ⟨1, 41, none⟩)]))) :
    Models (fun _ => none) [] (fun b => b < W.heap.size) ⟨fun b => W.heap[b]?, fun _ => False, W⟩ W := by
  refine ⟨fun i o h => by simp at h, fun _ _ => rfl, fun i o L h => by simp at h, fun i j oi oj Li Lj _ h => by simp at h, fun b hb => ⟨rfl, hb⟩, fun i c L h => by simp at h, fun b h => h.elim, fun x hx => ?_, rfl, rfl⟩
  obtain rfl : x = (0, fun o => ∃ c T fr, o = .cells c T fr ∧ c[0]? = some (.iface 65 (.agg #[.pointer (some ⟨1, 41, none⟩)]))) := List.mem_singleton.1 hx
  refine ⟨Go.Abs.cell_lt hg, ?_⟩
  have h0 := hg
  unfold World.cell? at h0
  split at h0
  · rename_i c T fr hc
    exact ⟨_, hc, c, T, fr, rfl, by simpa using h0⟩
  · cases h0

theorem kept {w w' : World} (h1 : w'.os = w.os) (h2 : w'.output = w.output) (h : ∀ b, b < w.heap.size → w'.heap[b]? = w.heap[b]?) (may : MemPlace → Prop) : w.keptBut w' may := by
  refine ⟨h1, h2, fun i hi => ?_⟩
  rw [h i hi]
  cases hc : w.heap[i]? with
  | none => rfl
  | some o => cases o <;> first | exact ⟨rfl, rfl, rfl, fun _ _ => rfl⟩ | exact .inr ⟨rfl, rfl⟩ | rfl

/-- A law at the machine, over arguments without memory: as a call. -/
theorem of_pure {f : FuncId} {args : List Value} (ha : args.all Go.Abs.atom = true) {W : World} (hg : W.cell? ⟨0, 0, none⟩ = some (.iface 65 (.agg #[.pointer (some ⟨1, 41, none⟩)])))
    (h : ACalls Tryd.prog f args [] fun v _ => v = .bool true) :
    Calls Tryd.prog f ⟨args⟩ W fun e W' => e = .returned (.bool true) ∧ ∀ may, W.keptBut W' may := by
  have hv : ∀ l : List Value, l.all Go.Abs.atom = true → VsRel (fun _ => none) l l := by
    intro l
    induction l with
    | nil => exact fun _ => .nil
    | cons v l ih =>
      intro hl
      simp only [List.all_cons, Bool.and_eq_true] at hl
      exact .cons (.atom hl.1) (ih hl.2)
  refine (h _ _ _ W args (hv args ha) (models0 W hg)).mono ?_
  rintro e W' ⟨v, v', ρ', H', rfl, rfl, hvr, hm, _⟩
  cases hvr
  exact ⟨rfl, fun may => kept hm.io.1 hm.io.2 (fun b hb => (hm.keep b hb).1) may⟩

set_option maxRecDepth 100000 in
theorem sizes_lifted (os : Os) (started : os.Started) (H : Type) (enc : TypeId × Value → H) :
    ReturnsInHanded {} Tryd.checked os 3 .any (fun w args => (Rows.fieldSizesSpec.pre enc Tryd.prog Tryd.f3 [] false w args ∧ laidMetH Tryd.prog Rows.fieldSizesRow.laid w) ∧ sizedMet enc Tryd.prog Tryd.f3 (OpenSpec.ofChange Rows.fieldSizesSpec) false w args)
      (Rows.fieldSizesSpec.post enc Tryd.prog Tryd.f3 false true false false) := by
  refine returnsInHanded_of_change_and (C := Tryd.checked) (X := fun w _ => laidMetH Tryd.prog Rows.fieldSizesRow.laid w) (fun _ _ _ hh h => h.of_heap hh) own started (by kernel_rfl) Tryd.func3
    (ChangeSpec.witness_at (enc := enc) (C := Tryd.checked) (os := os) (X := fun w _ => laidMetH Tryd.prog Rows.fieldSizesRow.laid w) false (laidWorld os) #[.int .i64 0, .int .i64 0] 8 rfl (by kernel_rfl) (by kernel_rfl) (by kernel_rfl) (by kernel_rfl) (by kernel_rfl) (laidWorld_met os _)) ?_
  intro W base args ds gs before hval0 hW _ _ hL _
  have hval : ∀ (j : Nat) t v, Tryd.f3.params[j]? = some t → args[j]? = some v → Value.okWide Tryd.prog W .any base t v := hval0
  have hW' := hW
  obtain ⟨p, q, hA0, hV0, rfl, hfz, hnd⟩ := hW
  have hA : DataW.TrodAll enc Tryd.prog W 0 (fun _ => true) true Tryd.f3.params.toList args.toList ds p := hA0
  have hV : DataW.TrodVars enc Tryd.prog W (fun _ => true) [] gs q := hV0
  rw [Tryd.params3] at hA hval
  obtain ⟨v0, v1, d0, d1, p0, p1, rfl, rfl, rfl, h0, h1⟩ := trodAll_two hA
  obtain ⟨n, rfl, rfl, rfl, hwn⟩ := open_int Tryd.underlying3 (hval 0 3 v0 rfl rfl) h0
  obtain ⟨m, rfl, rfl, rfl, hwm⟩ := open_int Tryd.underlying3 (hval 1 3 v1 rfl rfl) h1
  have hg := handle_of_laid hL
  obtain ⟨rfl, rfl⟩ : gs = [] ∧ q = [] := by
    cases gs with
    | nil => exact ⟨rfl, hV⟩
    | cons g r => exact absurd hV (by intro h; cases h)
  have e1 : Rows.fieldSizesSpec.fn H ([.lit (.int .i64 n), .lit (.int .i64 m)] ++ []) = { results := [.lit (.bool true)], args := [.lit (.int .i64 n), .lit (.int .i64 m)] } := by simp [Rows.fieldSizesSpec]
  refine (of_pure (args := [.int .i64 n, .int .i64 m]) rfl hg ((Go.Abs.FieldSizes0 n m).mono fun _ _ h => h.1)).mono fun e W' ⟨he, hk⟩ => ?_
  subst he
  refine ⟨_, rfl, _, _, _, [], [], [], hW', ?_, ?_, ?_, hk _, fun h => by cases h⟩
  · rw [e1]; exact trodAll_mk1 (shut_bool Tryd.underlying4 true)
  · rw [e1]; exact trodAll_mk2 (shut_int Tryd.underlying3 hwn) (shut_int Tryd.underlying3 hwm)
  · rw [e1]; rfl

theorem fieldSizes_holds : Rows.FieldSizesSaid :=
  OpenClaim.holds_of_wide 3 Tryd.f3 rfl rfl rfl rfl rfl rfl rfl ⟨rfl, rfl, rfl, rfl, rfl⟩ rfl rfl rfl rfl rfl (by kernel_rfl) Tryd.func3 (by kernel_rfl)
    (of_decide_eq_true (by kernel_rfl)) (by unfold Func.isWrapper; rw [if_neg (of_decide_eq_false (by kernel_rfl))]; exact ⟨rfl, rfl⟩)
    (fun os started H enc _ => sizes_lifted os started H enc)
end Go.Proofs.YthpclmlfmhjadaaDoor
