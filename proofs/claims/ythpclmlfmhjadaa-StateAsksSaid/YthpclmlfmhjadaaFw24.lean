/-
  A function of the program, as the abstract machine has it.
-/
import Derived.Test.YthpclmlfmhjadaaFw23
set_option linter.unusedSectionVars false
set_option linter.unusedSimpArgs false
set_option linter.unusedVariables false
namespace Go.Abs
variable [Gl : Globals]

/-- A function's end: its results. -/
def RetP (os : List AOp) (R : Value → AHeap → Prop) : APost := fun x e' H' => (x = .normal ∨ x = .ret) ∧ ∃ C vs, resA os e' H' = some (C, vs) ∧ C ∧ R (resV vs) H'

theorem retP_ret {os : List AOp} {R : Value → AHeap → Prop} {e : Env} {H : AHeap} : RetP os R .ret e H = ∃ C vs, resA os e H = some (C, vs) ∧ C ∧ R (resV vs) H := by simp [RetP]
theorem retP_normal {os : List AOp} {R : Value → AHeap → Prop} {e : Env} {H : AHeap} : RetP os R .normal e H = ∃ C vs, resA os e H = some (C, vs) ∧ C ∧ R (resV vs) H := by simp [RetP]
theorem res_some {os : List AOp} {R : Value → AHeap → Prop} {e : Env} {H : AHeap} {C : Prop} {vs : List Value} (h : resA os e H = some (C, vs)) (hC : C) (hR : R (resV vs) H) : ∃ C vs, resA os e H = some (C, vs) ∧ C ∧ R (resV vs) H := ⟨C, vs, h, hC, hR⟩

structure FunOk (P : Program) (hints : List String) (f : FuncId) (N : Nat) (ac : ACode) (os : List AOp) : Prop where
  ex : ∃ fn c, P.funcs[f]? = some fn ∧ fn.body = some c ∧ fn.ntmps = N ∧ ccode P hints N c = some ac ∧ fn.results.toList.mapM (cres P) = some os ∧ (fn.name == "runtime.NumGoroutine") = false

theorem funOk {P : Program} {hints : List String} {f : FuncId} {fn : Func} (hf : P.funcs[f]? = some fn) {N : Nat} {ac : ACode} {os : List AOp} (hN : fn.ntmps = N) (hc : fn.body.bind (ccode P hints N) = some ac)
    (hr : fn.results.toList.mapM (cres P) = some os) (hn : (fn.name == "runtime.NumGoroutine") = false) : FunOk P hints f N ac os := by
  cases hb : fn.body with
  | none => rw [hb] at hc; cases hc
  | some c => rw [hb] at hc; exact ⟨fn, c, hf, hb, hN, hc, hr, hn⟩

section
variable {P : Program} {hints : List String} {f : FuncId} {N : Nat} {ac : ACode} {os : List AOp}

theorem FunOk.there (h : FunOk P hints f N ac os) : There P f :=
  let ⟨fn, c, h1, h2, _, _, _, h6⟩ := h.ex; ⟨fn, c, h1, h2, h6⟩

theorem FunOk.calls (h : FunOk P hints f N ac os) {args : List Value} {H : AHeap} {R : Value → AHeap → Prop} (hlen : args.length ≤ N)
    (hw : SW P hints N H.length [.code ac] (RetP os R) (argEnv 0 args) H) : ACalls P f args H R := by
  obtain ⟨fn, c, h1, h2, rfl, h4, h5, _⟩ := h.ex
  exact acalls_body hints h1 h2 h4 h5 hlen hw
end
end Go.Abs
