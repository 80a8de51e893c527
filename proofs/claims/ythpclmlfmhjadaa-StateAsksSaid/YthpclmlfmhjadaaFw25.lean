/-
  Calls that touch no memory of the caller's.
-/
import Derived.Test.YthpclmlfmhjadaaFw24
set_option linter.unusedSectionVars false
set_option linter.unusedSimpArgs false
set_option linter.unusedVariables false
namespace Go.Abs
variable [Gl : Globals]

theorem VsRel.atoms {ρ ρ' : Emb} : ∀ {l l' : List Value}, l.all atom = true → VsRel ρ l l' → VsRel ρ' l l'
  | _, _, _, .nil => .nil
  | v :: l, _, h, .cons hv hl => by
    simp only [List.all_cons, Bool.and_eq_true] at h
    refine .cons ?_ (hl.atoms h.2)
    have h1 := h.1
    cases hv <;> first | exact .atom h1 | (simp [atom] at h1; done)

section
variable {P : Program} {f : FuncId} {args : List Value}

theorem ACalls.pure {Q : Value → Prop} (hargs : args.all atom = true) (h : ACalls P f args [] fun v _ => Q v) (hv : ∀ v, Q v → ∀ σ, Abs.ren σ v = v) (G : AHeap) :
    ACalls P f args G fun v H' => Q v ∧ H' = G := by
  have h1 : ACalls P f args [] fun v H' => Q v ∧ H' = [] := h.ren fun v H hq => ⟨v, [], [], List.nodup_nil, trivial, (hv v hq _).symm, fun i hi => by simp at hi, hq, rfl⟩
  refine h1.frame (C := []) (args0 := args) [] List.nodup_nil trivial (fun ρ Pr h0 w args' ha _ => ha.atoms hargs) fun v C' ⟨hq, hC⟩ => ?_
  subst hC
  refine ⟨⟨fun i c h => by simp at h, fun i o c h => by simp at h⟩, fun _ => ⟨by rw [hv v hq]; exact hq, ?_⟩⟩
  simp [back, upds]
end
end Go.Abs
