/-
  Regions, calls, loops, a function's body.
-/
import Derived.Test.YthpclmlfmhjadaaFw12
set_option linter.unusedSectionVars false
set_option linter.unusedSimpArgs false
set_option linter.unusedVariables false
namespace Go.Abs
variable [Gl : Globals]
section
variable {P : Program} {hints : List String} {N k : Nat}

theorem sw_region {l : List AOper} {s : List Item} {Q : APost} {e : Env} {H : AHeap} (h : SW P hints N k (.ops l :: s) Q e H) : SW P hints N k (.code (.ops l) :: s) Q e H := by
  rw [SW_code]
  rw [SW] at h
  intro c hc
  cases c <;> simp only [ccode] at hc <;> first | (cases hc; done) | skip
  case region id ops draw =>
    split at hc
    · rename_i l' hl
      split at hc <;> cases hc
      rename_i hd
      obtain rfl : draw = false := by simpa using hd
      intro ρ Pr h0 a w hs
      have := h ops 0 _ hl rfl (Cont P hints N k s Q) (fun e H hK => hK) ρ Pr h0 a w hs
      refine wp_region ?_
      simpa [List.range_eq_range'] using this
    · cases hc
  all_goals (split at hc <;> first | (cases hc; done) | (split at hc <;> cases hc; done))

theorem sw_ops_nil {s : List Item} {Q : APost} {e : Env} {H : AHeap} (h : SW P hints N k s Q e H) : SW P hints N k (.ops [] :: s) Q e H := by
  rw [SW]; exact ow_nil h
theorem sw_ops_not {o : AOper} {l : List AOper} {s : List Item} {Q : APost} {e : Env} {H : AHeap} (hg : wantedA o.guard e = some false) (h : SW P hints N k (.ops l :: s) Q (bind o.dst (.tuple #[]) e) H) : SW P hints N k (.ops (o :: l) :: s) Q e H := by
  rw [SW] at h ⊢; exact ow_not hg h
theorem sw_ops_step {o : AOper} {l : List AOper} {s : List Item} {Q : APost} {e : Env} {H H' : AHeap} {C : Prop} {v : Value} (hk : k ≤ H.length) (hg : wantedA o.guard e = some true) (hs : step1 o.op e H = some (C, v, H')) (hC : C)
    (h : SW P hints N k (.ops l :: s) Q (bind o.dst v e) H') : SW P hints N k (.ops (o :: l) :: s) Q e H := by
  rw [SW] at h ⊢; exact ow_step hk hg hs hC h

/-! ### Calls -/
def ACalls (P : Program) (f : FuncId) (args : List Value) (H : AHeap) (R : Value → AHeap → Prop) : Prop :=
  ∀ ρ Pr h0 w args', VsRel ρ args args' → Models ρ H Pr h0 w →
    Calls P f ⟨args'⟩ w fun e w' => ∃ v v' ρ' H', e = .returned v' ∧ R v H' ∧ VRel ρ' v v' ∧ Models ρ' H' Pr h0 w' ∧ ∀ i, i < H.length → ρ' i = ρ i

theorem ACalls.mono {f : FuncId} {args : List Value} {H : AHeap} {R R' : Value → AHeap → Prop} (h : ACalls P f args H R) (hr : ∀ v H', R v H' → R' v H') : ACalls P f args H R' :=
  fun ρ Pr h0 w args' ha hm => (h ρ Pr h0 w args' ha hm).mono fun _ _ ⟨v, v', ρ', H', h1, h2, h3⟩ => ⟨v, v', ρ', H', h1, hr _ _ h2, h3⟩

theorem post_mono_ops {ops : Array Oper} {Q Q' : Exit → Act → World → Prop} (hQ : ∀ x a w, Q x a w → Q' x a w) : ∀ (l : List Nat) (a : Act) (w : World), wpOps P ops Q l a w → wpOps P ops Q' l a w := by
  intro l
  induction l with
  | nil => intro a w h; exact hQ _ _ _ h
  | cons i l ih =>
    intro a w h
    simp only [wpOps] at h ⊢
    split
    · rename_i ho; simp only [ho] at h; exact ih _ _ h
    · rename_i o ho
      simp only [ho] at h
      split
      · rename_i hw
        simp only [hw, if_true] at h
        rcases h with h | ⟨h1, a0, w0, h2⟩
        · left
          unfold Oper.wp at *
          generalize (execOp a.eval o).run P w = r at *
          cases r with
          | ok n w' =>
            cases n <;> simp only [Oper.upon] at h ⊢ <;> first
              | exact ih _ _ h
              | exact h.mono fun e w'' he => by
                  cases e <;> first | exact ih _ _ he | exact hQ _ _ _ he | exact ⟨_, _, hQ _ _ _ he.choose_spec.choose_spec⟩
              | exact h.mono fun _ _ he => ih _ _ he
          | halt x w' => cases x <;> simp only [Oper.upon] at h ⊢ <;> exact hQ _ _ _ h
        · right; exact ⟨h1, a0, w0, hQ _ _ _ h2⟩
      · rename_i hw
        simp only [hw] at h
        exact ih _ _ h

/-- Where a call enters: the function and all its arguments. -/
def callee (o : AOp) (e : Env) : Option (FuncId × List Value) := match o with
  | .call f args => match evs e args with | some vs => some (f, vs) | none => none
  | .callV x args => match ev e x, evs e args with
    | some (.func (.func f) first cap), some vs => some (f, first.toList ++ vs ++ cap.toList)
    | _, _ => none
  | _ => none

theorem callFunc_run {f : FuncId} {fn : Func} {c : Code} {w : World} (hf : P.funcs[f]? = some fn) (hb : fn.body = some c) (hn : (fn.name == "runtime.NumGoroutine") = false) (args : Array Value) :
    (callFunc f args).run P w = .ok (.enter f args) w := by
  unfold callFunc
  simp only [Sem.run_bind, run_program, Result.andThen_ok, hf, hn, hb]
  simp

theorem call_enter0 {ρ : Emb} {e : Env} {a : Act} {w : World} {o : Oper} {ao : AOp} {f : FuncId} {vs : List Value} (hc : cop0 P hints o = some ao) (hcal : callee ao e = some (f, vs)) (he : ERel ρ e a)
    {fn : Func} {c : Code} (hf : P.funcs[f]? = some fn) (hb : fn.body = some c) (hn : (fn.name == "runtime.NumGoroutine") = false) :
    ∃ args', VsRel ρ vs args' ∧ (execOp a.eval o).run P w = .ok (.enter f ⟨args'⟩) w := by
  obtain ⟨dst, op, ty, pos, after, g⟩ := o
  cases op <;> simp only [cop0] at hc
  case call c =>
    obtain ⟨cal, ⟨args⟩, tys⟩ := c
    split at hc
    · rename_i f' hcal'; cases hc
      simp only at hcal'; subst hcal'
      simp only [callee] at hcal
      split at hcal
      · rename_i vs' hvs; cases hcal
        refine ⟨args.map a.eval, evs_rel he hvs, ?_⟩
        simp only [execOp, resolve, Act.eval, Deferred.ofValue, Sem.run_bind, Sem.run_pure, Result.andThen_ok, invoke]
        simp [callFunc_run hf hb hn]
      · cases hcal
    · rename_i x _ hcal'; cases hc
      simp only at hcal'; subst hcal'
      simp only [callee] at hcal
      split at hcal
      · rename_i f' first cap vs' hx hvs; cases hcal
        have hr := he.ev hx
        generalize hxv : a.eval x = xv at hr
        obtain ⟨first⟩ := first; obtain ⟨cap⟩ := cap
        cases hr with
        | atom h => simp [atom] at h
        | func h1 h2 =>
          rename_i a' b'
          refine ⟨a' ++ args.map a.eval ++ b', (h1.append (evs_rel he hvs)).append h2, ?_⟩
          simp only [execOp, resolve, hxv, Deferred.ofValue, Sem.run_bind, Sem.run_pure, Result.andThen_ok, invoke]
          simp [callFunc_run hf hb hn]
      · cases hcal
    all_goals (repeat' split at hc)
    all_goals first
      | (cases hc; done)
      | (cases hc; simp [callee] at hcal; done)
  case unOp op t x => cases op <;> simp only at hc <;> cases hc <;> simp [callee] at hcal
  case makeMap t r =>
    cases r with
    | none => simp only at hc; cases hc; simp [callee] at hcal
    | some r => cases hc
  all_goals (repeat' split at hc)
  all_goals first
    | (cases hc; done)
    | (cases hc; simp [callee] at hcal; done)

theorem call_enter {ρ : Emb} {e : Env} {a : Act} {w : World} {o : Oper} {ao : AOp} {f : FuncId} {vs : List Value} (hc : cop P hints o = some ao) (hcal : callee ao e = some (f, vs)) (he : ERel ρ e a)
    {fn : Func} {c : Code} (hf : P.funcs[f]? = some fn) (hb : fn.body = some c) (hn : (fn.name == "runtime.NumGoroutine") = false) :
    ∃ args', VsRel ρ vs args' ∧ (execOp a.eval o).run P w = .ok (.enter f ⟨args'⟩) w := by
  rcases cop_cases hc with h | rfl
  · exact call_enter0 h hcal he hf hb hn
  · simp [callee] at hcal

/-- A call. -/
theorem ow_call {o : AOper} {l : List AOper} {K : Env → AHeap → Prop} {e : Env} {H : AHeap} {f : FuncId} {vs : List Value} {fn : Func} {c : Code} (hk : k ≤ H.length) (hg : wantedA o.guard e = some true)
    (hcal : callee o.op e = some (f, vs)) (hf : P.funcs[f]? = some fn) (hb : fn.body = some c) (hn : (fn.name == "runtime.NumGoroutine") = false)
    (h : ACalls P f vs H fun v H' => OW P hints N k l K (bind o.dst v e) H') : OW P hints N k (o :: l) K e H := by
  intro ops j all hall hj Q hQ ρ Pr h0 a w hs
  obtain ⟨x, hx, hc, hj', hr⟩ := ow_head hall hj
  obtain ⟨h1, h2, h3, h4⟩ := coper_parts hc
  rw [hr, wpOps_cons]
  unfold wpOp
  simp only [hx, wanted_rel hs.env h4 hg, if_true]
  left
  obtain ⟨args', hargs, hrun⟩ := call_enter (w := w) h1 hcal hs.env hf hb hn
  unfold Oper.wp
  rw [hrun, Oper.upon_enter]
  refine (h ρ Pr h0 w args' hargs hs.mem).mono fun en w' ⟨v, v', ρ', H', he, hR, hv, hM, hag⟩ => ?_
  subst he
  simp only []
  rw [h2] at hR
  have hnext := hR ops (j + 1) all hall hj' Q hQ ρ' Pr h0 _ w' (hs.put (agree_le hs.mem hag) hM x.dst h3 hv)
  exact post_mono_ops (fun x a w hp => hp.trans fun i hi => hag i (by omega)) _ _ _ hnext

theorem sw_call {o : AOper} {l : List AOper} {s : List Item} {Q : APost} {e : Env} {H : AHeap} {f : FuncId} {vs : List Value} {fn : Func} {c : Code} (hk : k ≤ H.length) (hg : wantedA o.guard e = some true)
    (hcal : callee o.op e = some (f, vs)) (hf : P.funcs[f]? = some fn) (hb : fn.body = some c) (hn : (fn.name == "runtime.NumGoroutine") = false)
    (h : ACalls P f vs H fun v H' => SW P hints N k (.ops l :: s) Q (bind o.dst v e) H') : SW P hints N k (.ops (o :: l) :: s) Q e H := by
  rw [SW]
  refine ow_call hk hg hcal hf hb hn (h.mono fun v H' h => ?_)
  rw [SW] at h; exact h

/-! ### Loops -/
theorem wp_loopN {c : Code} {Q : Exit → Act → World → Prop} (I : Nat → Act → World → Prop) (round : ∀ n a w, I n a w → c.wp P (Exit.then (fun a' w' => ∃ m, m < n ∧ I m a' w') Q) a w) :
    ∀ n a w, I n a w → (Code.loop c).wp P Q a w := by
  intro n a w h₀ b k cs
  have key : ∀ n a w, I n a w → ∃ e a' w', Q e a' w' ∧ Arrives P (lone (b.at a (.code c :: .inLoop c :: k)) cs w) b k cs e a' w' := by
    intro n
    induction n using Nat.strongRecOn with
    | _ n ih =>
      intro a w hI
      obtain ⟨e, a₁, w₁, hq, harr⟩ := round n a w hI b (.inLoop c :: k) cs
      cases e with
      | normal =>
        obtain ⟨m, hlt, hI₁⟩ := hq
        obtain ⟨e₂, a₂, w₂, hq₂, harr₂⟩ := ih m hlt a₁ w₁ hI₁
        exact ⟨e₂, a₂, w₂, hq₂, .of_steps (Steps.trans harr (.one step_inLoop)) harr₂⟩
      | exit id => exact ⟨_, a₁, w₁, hq, .pass (x := .inLoop c) rfl (fun _ _ => .inl (by simp)) harr⟩
      | goto l => exact ⟨_, a₁, w₁, hq, .pass (x := .inLoop c) rfl (fun _ _ => .inl (by simp)) harr⟩
      | ret => exact ⟨_, a₁, w₁, hq, .pass (x := .inLoop c) rfl (fun _ _ => .inl (by simp)) harr⟩
      | panic ch => exact ⟨_, a₁, w₁, hq, .pass (x := .inLoop c) rfl (fun _ _ => .inl (by simp)) harr⟩
      | outgrown => exact ⟨_, a₁, w₁, hq, .pass (x := .inLoop c) rfl (fun _ _ => .inl (by simp)) harr⟩
  obtain ⟨e, a', w', hq, harr⟩ := key _ a w h₀
  exact ⟨e, a', w', hq, .of_steps (.one step_loop) harr⟩

/-- A loop: what holds at each head, with how many rounds are left at most; a round ends in the loop's own head, or goes on behind. -/
theorem sw_loop {b : ACode} {s : List Item} {Q : APost} (I : Nat → Env → AHeap → Prop) {n : Nat} {e : Env} {H : AHeap} (h0 : I n e H)
    (round : ∀ n e H, I n e H → AW P hints N k b (fun x e' H' => match x with | .normal => ∃ m, m < n ∧ I m e' H' | x => Cont P hints N k s Q x e' H') e H) : SW P hints N k (.code (.loop b) :: s) Q e H := by
  rw [SW_code]
  intro c hc
  cases c <;> simp only [ccode] at hc <;> first | (cases hc; done) | skip
  case loop c' =>
    split at hc
    · rename_i b' hb; cases hc
      intro ρ Pr hh a w hs
      refine wp_loopN (fun n a w => ∃ ρ1 e1 H1, I n e1 H1 ∧ StRel N ρ1 Pr hh e1 H1 a w ∧ ∀ i, i < k → ρ1 i = ρ i) ?_ n a w ⟨ρ, e, H, h0, hs, fun _ _ => rfl⟩
      rintro n a w ⟨ρ1, e1, H1, hI, hs1, hag⟩
      refine wp_mono (round n e1 H1 hI c' hb ρ1 Pr hh a w hs1) fun x a' w' ⟨ρ', e', H', hq, hs', hk'⟩ => ?_
      cases x with
      | normal =>
        obtain ⟨m, hm, hI'⟩ := hq
        exact ⟨m, hm, ρ', e', H', hI', hs', fun i hi => (hk' i hi).trans (hag i hi)⟩
      | exit id => exact ⟨ρ', e', H', hq, hs', fun i hi => (hk' i hi).trans (hag i hi)⟩
      | ret => exact ⟨ρ', e', H', hq, hs', fun i hi => (hk' i hi).trans (hag i hi)⟩
      | goto l => exact hq.elim
      | panic c => exact hq.elim
      | outgrown => exact hq.elim
    · cases hc
  all_goals (split at hc <;> first | (cases hc; done) | (split at hc <;> cases hc; done))

/-- Behind a part: whatever it meets is met by the stack that stands for its end. -/
def endPost (P : Program) (hints : List String) (N k : Nat) (s : List Item) (Q : APost) (K : Env → AHeap → Prop) : APost := fun x e H => match x with
  | .normal => K e H
  | x => Cont P hints N k s Q x e H

/-- A part of the code as a stack of its own: its normal end is 'K', the other ends go on in 's'. -/
theorem aw_of_sw {b : ACode} {Q : APost} {e : Env} {H : AHeap} (h : SW P hints N k [.code b] Q e H) : AW P hints N k b Q e H := by
  rw [SW_code] at h
  intro c hc
  refine (h c hc).mono fun x e H hx => ?_
  cases x with
  | normal => exact hx
  | exit id => simpa [Cont, SX] using hx
  | ret => exact hx
  | goto l => exact hx.elim
  | panic c => exact hx.elim
  | outgrown => exact hx.elim
end
end Go.Abs
