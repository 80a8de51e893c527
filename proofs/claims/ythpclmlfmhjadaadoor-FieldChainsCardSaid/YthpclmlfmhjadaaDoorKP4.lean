import Derived.Test.YthpclmlfmhjadaaDoorKD6
import Derived.Test.YthpclmlfmhjadaaDoorKP3
namespace Go.Proofs.YthpclmlfmhjadaaDoor
open Go.ChangeShapes Go.WideShapes Go.RowKit
open Go.Abs (ACalls Models Keep VsRel VRel)

theorem laidOut : laidOutB Tryd.prog = true := by kernel_rfl

theorem glob_of {W : World} (hg : W.cell? ⟨0, 0, none⟩ = some (.iface 65 (.agg #[.pointer (some ⟨1, 41, none⟩)]))) : ∀ x ∈ Go.Abs.Globals.tab, x.1 < W.heap.size ∧ ∃ o, W.heap[x.1]? = some o ∧ x.2 o := by
  intro x hx
  obtain rfl : x = (0, fun o => ∃ c T fr, o = .cells c T fr ∧ c[0]? = some (.iface 65 (.agg #[.pointer (some ⟨1, 41, none⟩)]))) := List.mem_singleton.1 hx
  refine ⟨Go.Abs.cell_lt hg, ?_⟩
  have h0 := hg
  unfold World.cell? at h0
  split at h0
  · rename_i c T fr hc
    exact ⟨_, hc, c, T, fr, rfl, by simpa using h0⟩
  · cases h0

set_option maxRecDepth 100000 in
theorem chains_lifted (os : Os) (started : os.Started) (H : Type) (enc : TypeId × Value → H) :
    ReturnsInHanded {} Tryd.checked os 4 .any (fun w args => (Rows.fieldChainsSpec.pre enc Tryd.prog Tryd.f4 [] false w args ∧ laidMetH Tryd.prog Rows.fieldChainsRow.laid w) ∧ sizedMet enc Tryd.prog Tryd.f4 (OpenSpec.ofChange Rows.fieldChainsSpec) false w args)
      (Rows.fieldChainsSpec.post enc Tryd.prog Tryd.f4 false true false false) := by
  refine returnsInHanded_of_change_and (C := Tryd.checked) (X := fun w _ => laidMetH Tryd.prog Rows.fieldChainsRow.laid w) (fun _ _ _ hh h => h.of_heap hh) own started (by kernel_rfl) Tryd.func4
    (ChangeSpec.witness_at (enc := enc) (C := Tryd.checked) (os := os) (X := fun w _ => laidMetH Tryd.prog Rows.fieldChainsRow.laid w) false (laidWorld os) #[.slice none 0 0, .slice none 0 0] 8 rfl (by kernel_rfl) (by kernel_rfl) (by kernel_rfl) (by kernel_rfl) (by kernel_rfl) (laidWorld_met os _)) ?_
  intro W base args ds gs before hval0 hW _ _ hL _
  have hval : ∀ (j : Nat) t v, Tryd.f4.params[j]? = some t → args[j]? = some v → Value.okWide Tryd.prog W .any base t v := hval0
  have hW' := hW
  have hlt : ∀ x ∈ before, x.block < W.heap.size := fun x hx => by simpa using hW.lt x hx
  obtain ⟨p, q, hA0, hV0, rfl, hfz, hnd⟩ := hW
  have hA : DataW.TrodAll enc Tryd.prog W 0 (fun _ => true) true Tryd.f4.params.toList args.toList ds p := hA0
  have hV : DataW.TrodVars enc Tryd.prog W (fun _ => true) [] gs q := hV0
  rw [Tryd.params4] at hA hval
  obtain ⟨v0, v1, d0, d1, p0, p1, rfl, rfl, rfl, h0, h1⟩ := trodAll_two hA
  obtain ⟨xs, hx, hxl⟩ := Go.Abs.roAt_ints (e := 3) (show Tryd.prog.underlying 29 = some (.slice 3) by kernel_rfl) Tryd.underlying3 (by kernel_rfl) (hval 0 29 v0 rfl rfl) h0
  obtain ⟨ss, hs, hsl, _⟩ := Go.Abs.roAt_strs (e := 9) (show Tryd.prog.underlying 30 = some (.slice 9) by kernel_rfl) (by kernel_rfl) (by kernel_rfl) (hval 1 30 v1 rfl rfl) h1
  obtain ⟨rfl, rfl⟩ : gs = [] ∧ q = [] := by
    cases gs with
    | nil => exact ⟨rfl, hV⟩
    | cons g r => exact absurd hV (by intro h; cases h)
  refine (Go.Abs.law_calls (args := [v0, v1]) (glob_of (handle_of_laid hL)) [(Go.Abs.ints xs, xs.length, v0), (Go.Abs.strs ss, ss.length, v1)]
    (by intro x hx'; simp only [List.mem_cons, List.not_mem_nil, or_false] at hx'; rcases hx' with rfl | rfl; exact hx; exact hs)
    (fun ρ hρ => .cons (hρ 0 _ rfl) (.cons (hρ 1 _ rfl) .nil)) (Go.Abs.FieldChains0 xs ss hxl hsl)).mono fun e W' ⟨he, ho, hout, hk⟩ => ?_
  subst he
  exact ⟨_, rfl, Go.Abs.post_true (tb := 4) hW' rfl rfl (by kernel_rfl) Tryd.underlying4 laidOut (by
    intro t ht
    rw [Tryd.params4] at ht
    simp only [List.mem_cons, List.not_mem_nil, or_false] at ht
    rcases ht with rfl | rfl
    · exact ⟨by kernel_rfl, of_decide_eq_true (by kernel_rfl)⟩
    · exact ⟨by kernel_rfl, of_decide_eq_true (by kernel_rfl)⟩) hlt ho hout hk⟩

theorem fieldChains_holds : Rows.FieldChainsSaid :=
  OpenClaim.holds_of_wide 4 Tryd.f4 rfl rfl rfl rfl rfl rfl rfl ⟨rfl, rfl, rfl, rfl, rfl⟩ rfl rfl rfl rfl rfl (by kernel_rfl) Tryd.func4 (by kernel_rfl)
    (of_decide_eq_true (by kernel_rfl)) (by unfold Func.isWrapper; rw [if_neg (of_decide_eq_false (by kernel_rfl))]; exact ⟨rfl, rfl⟩)
    (fun os started H enc _ => chains_lifted os started H enc)
end Go.Proofs.YthpclmlfmhjadaaDoor
