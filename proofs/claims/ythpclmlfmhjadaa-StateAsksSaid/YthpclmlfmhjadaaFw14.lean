/-
  A function's body; calls over a part of the memory; other names for what lies in it.
-/
import Derived.Test.YthpclmlfmhjadaaFw13
set_option linter.unusedSectionVars false
set_option linter.unusedSimpArgs false
set_option linter.unusedVariables false
namespace Go.Abs
variable [Gl : Globals]
section
variable {P : Program} {hints : List String} {N k : Nat}

def cres (P : Program) : ResultVar → Option AOp
  | .tmp t => some (.mv (.tmp t))
  | .cell a t => match P.underlying t, P.info? t with | some d, some i => some (.load (isStruct d) i.size (.tmp a)) | _, _ => none

/-- The results: a condition, and the values. -/
def resA : List AOp → Env → AHeap → Option (Prop × List Value)
  | [], _, _ => some (True, [])
  | o :: l, e, H => match aq o e H, resA l e H with | some (C, v), some (D, vs) => some (C ∧ D, v :: vs) | _, _ => none

def resV : List Value → Value
  | [v] => v
  | vs => .tuple ⟨vs⟩

def resOne (a : Act) (r : ResultVar) : Sem Value := match r with
  | .tmp t => pure (a.tmps.getD t undef)
  | .cell x t => do loadVar t (← asAddr (a.tmps.getD x undef))

theorem cres_run {ρ : Emb} {Pr : Nat → Prop} {h0 : Keep} {e : Env} {H : AHeap} {a : Act} {w : World} {r : ResultVar} {o : AOp} {C : Prop} {v : Value} (hc : cres P r = some o) (hq : aq o e H = some (C, v)) (hC : C) (he : ERel ρ e a) (hm : Models ρ H Pr h0 w) :
    ∃ v', (resOne a r).run P w = .ok v' w ∧ VRel ρ v v' := by
  cases r with
  | tmp t =>
    cases hc
    simp only [aq] at hq
    split at hq
    · rename_i u hu; cases hq
      exact ⟨_, rfl, he.ev hu⟩
    · cases hq
  | cell x t =>
    simp only [cres] at hc
    split at hc
    · rename_i d i hu hi; cases hc
      simp only [aq] at hq
      split at hq
      · rename_i b off hx
        obtain ⟨L, hL, hab, hxv⟩ := ev_ptr he hx
        split at hq
        · rename_i c hcc
          have key : ∀ {v}, ((isStruct d = true ∧ off + i.size ≤ c.length ∧ v = .agg ⟨(c.drop off).take i.size⟩) ∨ (isStruct d = false ∧ c[off]? = some v)) →
              ∃ v', (resOne a (.cell x t)).run P w = .ok v' w ∧ VRel ρ v v' := by
            intro v h
            obtain ⟨v', h1, h2⟩ := load_sound hu hi hm hcc hL hab h
            refine ⟨v', ?_, h2⟩
            have hxv' : a.tmps.getD x undef = .pointer (some ⟨L.blk, L.base + off, none⟩) := hxv
            simp only [resOne, hxv']
            simpa [asAddr, Instr.loadAt, Instr.sureAddr] using h1
          split at hq
          · rename_i hs; cases hq; exact key (.inl ⟨hs, hC, rfl⟩)
          · rename_i hs
            split at hq
            · rename_i u hu'; cases hq; exact key (.inr ⟨by simpa using hs, hu'⟩)
            · cases hq
        · cases hq
      · cases hq
    · cases hc

theorem results_run {ρ : Emb} {Pr : Nat → Prop} {h0 : Keep} {e : Env} {H : AHeap} {a : Act} {w : World} (he : ERel ρ e a) (hm : Models ρ H Pr h0 w) : ∀ {rs : List ResultVar} {os : List AOp} {C : Prop} {vs : List Value},
    rs.mapM (cres P) = some os → resA os e H = some (C, vs) → C →
    ∃ vs', (rs.mapM (resOne a)).run P w = .ok vs' w ∧ VsRel ρ vs vs'
  | [], os, C, vs, h1, h2, _ => by
    simp at h1; subst h1
    simp [resA] at h2; obtain ⟨_, rfl⟩ := h2
    exact ⟨[], rfl, .nil⟩
  | r :: rs, os, C, vs, h1, h2, hC => by
    simp only [List.mapM_cons, Option.bind_eq_bind, Option.pure_def] at h1
    cases hr : cres P r with
    | none => simp [hr] at h1
    | some o =>
      cases hrs : rs.mapM (cres P) with
      | none => simp [hr, hrs] at h1
      | some os' =>
        simp [hr, hrs] at h1; subst h1
        simp only [resA] at h2
        split at h2
        · rename_i C1 v D vs1 hq hR; cases h2
          obtain ⟨v', h3, h4⟩ := cres_run hr hq hC.1 he hm
          obtain ⟨vs', h5, h6⟩ := results_run he hm hrs hR hC.2
          refine ⟨v' :: vs', ?_, .cons h4 h6⟩
          rw [List.mapM_cons, Sem.run_bind, h3]
          simp only [Result.andThen_ok, Sem.run_bind, h5, Sem.run_pure]
        · cases h2

def argEnv : Nat → List Value → Env
  | _, [] => []
  | i, v :: vs => (i, v) :: argEnv (i + 1) vs

theorem argEnv_look : ∀ (vs : List Value) (i t : Nat) (v : Value), look (argEnv i vs) t = some v → i ≤ t ∧ vs[t - i]? = some v
  | [], i, t, v, h => by simp [argEnv, look] at h
  | u :: vs, i, t, v, h => by
    simp only [argEnv, look] at h
    split at h
    · rename_i ht; subst ht; cases h; simp
    · rename_i ht
      obtain ⟨h1, h2⟩ := argEnv_look vs (i + 1) t v h
      refine ⟨by omega, ?_⟩
      rw [show t - i = (t - (i + 1)) + 1 by omega]
      simpa using h2

/-- A function's contract, by its body. -/
theorem acalls_body {f : FuncId} {fn : Func} {c : Code} {ac : ACode} {os : List AOp} {args : List Value} {H : AHeap} {R : Value → AHeap → Prop} (hints : List String) (hf : P.funcs[f]? = some fn) (hb : fn.body = some c) (hc : ccode P hints fn.ntmps c = some ac)
    (hr : fn.results.toList.mapM (cres P) = some os) (hlen : args.length ≤ fn.ntmps)
    (h : SW P hints fn.ntmps H.length [.code ac] (fun x e' H' => (x = .normal ∨ x = .ret) ∧ ∃ C vs, resA os e' H' = some (C, vs) ∧ C ∧ R (resV vs) H') (argEnv 0 args) H) : ACalls P f args H R := by
  intro ρ Pr h0 w args' hargs hm
  have hl := hargs.length
  refine calls_of_wp hf hb ?_
  rw [SW_code] at h
  have hs : StRel fn.ntmps ρ Pr h0 (argEnv 0 args) H { tmps := (⟨args'⟩ : Array Value) ++ Array.replicate (fn.ntmps - (⟨args'⟩ : Array Value).size) undef, defers := [] } w := by
    refine ⟨⟨fun t v hv => ?_, rfl⟩, ?_, hm⟩
    · obtain ⟨_, h2⟩ := argEnv_look args 0 t v hv
      obtain ⟨v', h3, h4⟩ := hargs.get (by simpa using h2)
      refine ⟨v', ?_, h4⟩
      have hlt : t < args'.length := by
        rcases Nat.lt_or_ge t args'.length with h | h
        · exact h
        · simp [List.getElem?_eq_none h] at h3
      rw [Array.getElem?_append_left (by simpa using hlt)]
      simpa using h3
    · simp; omega
  refine wp_mono (h c hc ρ Pr h0 _ w hs) fun x a w' ⟨ρ', e', H', hq, hs', hk⟩ => ?_
  have key : (x = .normal ∨ x = .ret) → (∃ C vs, resA os e' H' = some (C, vs) ∧ C ∧ R (resV vs) H') → bodyPost P fn (fun e w' => ∃ v v' ρ' H', e = .returned v' ∧ R v H' ∧ VRel ρ' v v' ∧ Models ρ' H' Pr h0 w' ∧ ∀ i, i < H.length → ρ' i = ρ i) x a w' := by
    rintro hx ⟨C, vs, hres, hC, hR⟩
    obtain ⟨vs', hrun, hrel⟩ := results_run (P := P) hs'.env hs'.mem hr hres hC
    have hv : (results fn a.tmps).run P w' = .ok (if h : vs'.toArray.size = 1 then vs'.toArray[0] else .tuple vs'.toArray) w' := by
      have h1 : results fn a.tmps = (do let vs ← fn.results.toList.toArray.mapM (resOne a); pure (if h : vs.size = 1 then vs[0] else .tuple vs)) := by
        rw [Array.toArray_toList]; rfl
      rw [h1, Sem.run_bind, List.mapM_toArray, Sem.run_map, hrun]
      rfl
    have hvr : VRel ρ' (resV vs) (if h : vs'.toArray.size = 1 then vs'.toArray[0] else .tuple vs'.toArray) := by
      cases hrel with
      | nil => exact .tuple .nil
      | cons a b => cases b with
        | nil => exact a
        | cons c d => simp [resV]; exact .tuple (.cons a (.cons c d))
    rcases hx with rfl | rfl
    · exact ⟨hs'.env.defers, _, hv, _, _, ρ', H', rfl, hR, hvr, hs'.mem, hk⟩
    · exact ⟨hs'.env.defers, _, hv, _, _, ρ', H', rfl, hR, hvr, hs'.mem, hk⟩
  cases x with
  | normal =>
    simp only [Cont] at hq
    rw [SW] at hq
    exact key (.inl rfl) hq.2
  | exit id =>
    simp only [Cont] at hq
    rw [SX] at hq
    rcases hq.1 with h | h <;> cases h
  | ret =>
    simp only [Cont] at hq
    exact key (.inr rfl) hq.2
  | goto l => exact hq.elim
  | panic c => exact hq.elim
  | outgrown => exact hq.elim
end
end Go.Abs
