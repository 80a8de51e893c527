/-
  Closed calls by computation: the evaluator, and that it tells the truth.
-/
import Derived.Test.YthpclmlfmhjadaaFw27
set_option linter.unusedSectionVars false
set_option linter.unusedSimpArgs false
set_option linter.unusedVariables false
namespace Go.Abs
variable [Gl : Globals]

/-- Codes whose drawn regions bear a plan. -/
inductive ECode where
  | skip
  | ops (l : List AOper)
  | dops (l : List AOper) (af an : List (List Nat)) (fl : Option Nat) (plan : List Nat)
  | seq (a b : ECode)
  | cond (c : Operand) (a b : ECode)
  | block (id : Nat) (b : ECode)
  | loop (b : ECode)
  | exit (id : Nat)
  | ret

def ECode.er : ECode → ACode
  | .skip => .skip
  | .ops l => .ops l
  | .dops l af _ _ _ => .dops l af
  | .seq a b => .seq a.er b.er
  | .cond c a b => .cond c a.er b.er
  | .block id b => .block id b.er
  | .loop b => .loop b.er
  | .exit id => .exit id
  | .ret => .ret
def ECode.ok : ECode → Bool
  | .dops l af an fl plan => drawOk l af an fl plan
  | .seq a b | .cond _ a b => a.ok && b.ok
  | .block _ b | .loop b => b.ok
  | _ => true

inductive EItem where
  | code (c : ECode)
  | ops (l : List AOper)
  | blk (id : Nat)
def EItem.er : EItem → Item
  | .code c => .code c.er
  | .ops l => .ops l
  | .blk id => .blk id
def EItem.ok : EItem → Bool
  | .code c => c.ok
  | _ => true

structure EFun where
  hints : List String
  n : Nat
  code : ECode
  res : List AOp

abbrev ECal := FuncId → List Value → AHeap → Option (Value × AHeap)

def prune : Env → Env
  | [] => []
  | (t, v) :: e => (t, v) :: (prune e).filter fun x => !Nat.beq x.1 t

theorem look_filter {t s : Nat} : ∀ {e : Env}, look (e.filter fun x => !Nat.beq x.1 t) s = if s = t then none else look e s
  | [] => by simp [look]
  | (u, v) :: e => by
    by_cases hu : u = t
    · subst hu
      have : (Nat.beq u u) = true := by simp
      simp only [List.filter_cons, this, Bool.not_true, Bool.false_eq_true, if_false, look]
      rw [look_filter]
      by_cases hs : s = u
      · simp [hs]
      · simp [hs, Ne.symm hs]
    · have : (Nat.beq u t) = false := by
        cases h : Nat.beq u t with
        | false => rfl
        | true => exact absurd (Nat.eq_of_beq_eq_true h) hu
      simp only [List.filter_cons, this, Bool.not_false, if_true, look]
      rw [look_filter]
      by_cases hs : u = s
      · subst hs; simp [hu]
      · simp [hs]
theorem look_prune {s : Nat} : ∀ {e : Env}, look (prune e) s = look e s
  | [] => rfl
  | (t, v) :: e => by
    simp only [prune, look, look_filter, look_prune]
    by_cases h : t = s
    · simp [h]
    · simp [h, Ne.symm h]

def bindE (o : AOper) (v : Value) (e : Env) : Env := bind o.dst v e

def exitE (id : Nat) : List EItem → Option (List EItem)
  | [] => none
  | .blk id' :: s => if id = id' then some s else exitE id s
  | _ :: s => exitE id s

/-- A drawn region, in its plan's order. -/
def drE (cal : ECal) (an : List (List Nat)) : List (Nat × AOper) → Rs → Env → AHeap → Option (Env × AHeap)
  | [], _, e, H => some (e, H)
  | (i, o) :: l, rs, e, H => match wantedA o.guard e with
    | none => none
    | some false => drE cal an l rs (bind o.dst (.tuple #[]) e) H
    | some true => if o.op.sync = true then
        (match callee o.op e with
        | some (f, vs) => match cal f vs H with
          | some (v, H') => if recheckB rs (anOf an i) H' = true then drE cal an l rs (bind o.dst v e) H' else none
          | none => none
        | none => match aeff o.op e H with
          | some (_, v, H') => if (chke o.op e H && recheckB rs (anOf an i) H') = true then drE cal an l rs (bind o.dst v e) H' else none
          | none => none)
      else match aq o.op e H with
        | some (_, v) => if chkq o.op e H = true then drE cal an l (if o.op.looks = true then (i, o.op, e, v) :: rs else rs) (bind o.dst v e) H else none
        | none => none

def stE (o : AOp) (e : Env) (H : AHeap) : Option (Value × AHeap) :=
  match aq o e H with
  | some (_, v) => if chkq o e H = true then some (v, H) else none
  | none => match aeff o e H with
    | some (_, v, H') => if chke o e H = true then some (v, H') else none
    | none => none

def rndE (body : Env → AHeap → Option (Exit × Env × AHeap)) : Nat → Env → AHeap → Option (Exit × Env × AHeap)
  | 0, _, _ => none
  | n + 1, e, H => match body e H with
    | some (.normal, e', H') => rndE body n (prune e') H'
    | r => r

def exE (cal : ECal) : Nat → List EItem → Env → AHeap → Option (Exit × Env × AHeap)
  | 0, _, _, _ => none
  | m + 1, s, e, H => match s with
    | [] => some (.normal, e, H)
    | .blk _ :: s => exE cal m s e H
    | .ops [] :: s => exE cal m s e H
    | .ops (o :: l) :: s => match wantedA o.guard e with
      | none => none
      | some false => exE cal m (.ops l :: s) (bind o.dst (.tuple #[]) e) H
      | some true => match callee o.op e with
        | some (f, vs) => match cal f vs H with
          | some (v, H') => exE cal m (.ops l :: s) (bind o.dst v e) H'
          | none => none
        | none => match stE o.op e H with
          | some (v, H') => exE cal m (.ops l :: s) (bind o.dst v e) H'
          | none => none
    | .code c :: s => match c with
      | .skip => exE cal m s e H
      | .ops l => exE cal m (.ops l :: s) e H
      | .dops l _ an _ plan => match drE cal an (plan.filterMap fun i => (l[i]?).map (i, ·)) [] e H with
        | some (e', H') => exE cal m s e' H'
        | none => none
      | .seq a b => exE cal m (.code a :: .code b :: s) e H
      | .cond x a b => match toB (ev e x) with
        | some true => exE cal m (.code a :: s) e H
        | some false => exE cal m (.code b :: s) e H
        | none => none
      | .block id b => exE cal m (.code b :: .blk id :: s) e H
      | .loop b => match rndE (exE cal m [.code b]) m e H with
        | some (.exit id, e', H') => (match exitE id s with
          | some s' => exE cal m s' e' H'
          | none => some (.exit id, e', H'))
        | some (.ret, e', H') => some (.ret, e', H')
        | _ => none
      | .exit id => (match exitE id s with
        | some s' => exE cal m s' e H
        | none => some (.exit id, e, H))
      | .ret => some (.ret, e, H)

def resE : List AOp → Env → AHeap → Option (List Value)
  | [], _, _ => some []
  | o :: l, e, H => match aq o e H with
    | some (_, v) => if chkq o e H = true then (match resE l e H with | some vs => some (v :: vs) | none => none) else none
    | none => none

/-- A call. -/
def evE (O : ECal) (T : FuncId → Option EFun) (m : Nat) : Nat → ECal
  | 0, _, _, _ => none
  | n + 1, f, args, H => match O f args H with
    | some r => some r
    | none => match T f with
      | none => none
      | some F => if nl args.length F.n = true then (match exE (evE O T m n) m [.code F.code] (argEnv 0 args) H with
        | some (x, e', H') => (match x with
          | .normal | .ret => (match resE F.res e' H' with | some vs => some (resV vs, H') | none => none)
          | _ => none)
        | none => none) else none

/-! ### It tells the truth -/
section
variable {P : Program} {hints : List String} {N k : Nat}

def CalOk (P : Program) (cal : ECal) : Prop := ∀ f args H v H', cal f args H = some (v, H') → H.length ≤ H'.length ∧ There P f ∧ ACalls P f args H fun v1 H1 => v1 = v ∧ H1 = H'

theorem AW.env {c : ACode} {Q : APost} {e e' : Env} {H : AHeap} (hl : ∀ t v, look e t = some v → look e' t = some v) (h : AW P hints N k c Q e H) : AW P hints N k c Q e' H :=
  fun c' hc ρ Pr h0 a w hs => h c' hc ρ Pr h0 a w ⟨⟨fun t v hv => hs.env.tmps t v (hl t v hv), hs.env.defers⟩, hs.size, hs.mem⟩

def AR (P : Program) (hints : List String) (N k : Nat) (b : ACode) (K : APost) : Nat → Env → AHeap → Prop
  | 0, _, _ => False
  | n + 1, e, H => AW P hints N k b (fun x e' H' => match x with | .normal => ∃ e2, (∀ t v, look e2 t = some v → look e' t = some v) ∧ AR P hints N k b K n e2 H' | x => K x e' H') e H

theorem sw_rounds {b : ACode} {s : List Item} {Q : APost} {n : Nat} {e : Env} {H : AHeap} (h : AR P hints N k b (Cont P hints N k s Q) n e H) : SW P hints N k (.code (.loop b) :: s) Q e H := by
  rw [SW_code]
  intro c hc
  cases c <;> simp only [ccode] at hc <;> first | (cases hc; done) | skip
  case loop c' =>
    split at hc
    · rename_i b' hb; cases hc
      intro ρ Pr hh a w hs
      refine wp_loop_rounds n ?_
      have key : ∀ n e H, AR P hints N k b (Cont P hints N k s Q) n e H → ∀ ρ1, (∀ i, i < k → ρ1 i = ρ i) → ∀ a w, StRel N ρ1 Pr hh e H a w → Code.rounds P c' (Post N k ρ Pr hh (Cont P hints N k s Q)) n a w := by
        intro n
        induction n with
        | zero => intro e H h; exact h.elim
        | succ n ih =>
          intro e H h ρ1 hag a w hs
          rw [rounds_succ]
          refine wp_mono (h c' hb ρ1 Pr hh a w hs) fun x a' w' ⟨ρ', e', H', hq, hs', hk'⟩ => ?_
          cases x with
          | normal =>
            obtain ⟨e2, hl, hr⟩ := hq
            exact ih e2 H' hr ρ' (fun i hi => (hk' i hi).trans (hag i hi)) a' w' ⟨⟨fun t v hv => hs'.env.tmps t v (hl t v hv), hs'.env.defers⟩, hs'.size, hs'.mem⟩
          | exit id => exact ⟨ρ', e', H', hq, hs', fun i hi => (hk' i hi).trans (hag i hi)⟩
          | ret => exact ⟨ρ', e', H', hq, hs', fun i hi => (hk' i hi).trans (hag i hi)⟩
          | goto l => exact hq.elim
          | panic c => exact hq.elim
          | outgrown => exact hq.elim
      exact key n e H h ρ (fun _ _ => rfl) a w hs
    · cases hc
  all_goals (split at hc <;> first | (cases hc; done) | (split at hc <;> cases hc; done))

/-! ### A loop, one round unrolled -/
theorem exitTo_len {id : Nat} : ∀ {k k' : List Go.Item}, exitTo id k = some k' → k'.length < k.length
  | [], _, h => by cases h
  | x :: k, k', h => by
    have key : exitTo id k = some k' → k'.length < (x :: k).length := fun h => by
      have := exitTo_len h; simp only [List.length_cons]; omega
    cases x <;> simp only [exitTo] at h <;> first | exact key h | skip
    split at h
    · cases h; simp
    · exact key h

theorem steps_skip {X Y Z : Machine} (h1 : step P X = .next Y) (h : Steps P X Z) (hne : X ≠ Z) : Steps P Y Z := by
  obtain ⟨n, hn⟩ := h
  cases n with
  | zero => simp [runN] at hn; exact absurd hn hne
  | succ n => simp [runN, h1] at hn; exact ⟨n, hn⟩

theorem lone_at {b : Frame} {a a' : Act} {k k' : List Go.Item} {cs : List Frame} {w w' : World} (h : lone (b.at a k) cs w = lone (b.at a' k') cs w') : k = k' := by
  simp [lone, Frame.at] at h; exact h.2.2.1

theorem wp_loop_once {c : Code} {Q : Exit → Act → World → Prop} {a : Act} {w : World} (hQ : ∀ x a w, Q x a w → x = .normal ∨ x = .ret ∨ ∃ id, x = .exit id)
    (h : c.wp P (Exit.then (fun a' w' => (Code.loop c).wp P Q a' w') Q) a w) : (Code.loop c).wp P Q a w := by
  intro b k cs
  obtain ⟨e, a1, w1, hq, harr⟩ := h b (.inLoop c :: k) cs
  cases e with
  | normal =>
    obtain ⟨e2, a2, w2, hq2, harr2⟩ := hq b k cs
    refine ⟨e2, a2, w2, hq2, ?_⟩
    have hstep : step P (lone (b.at a1 (.code (.loop c) :: k)) cs w1) = .next (lone (b.at a1 (.code c :: .inLoop c :: k)) cs w1) := step_loop
    have hpre : Steps P (lone (b.at a (.code (.loop c) :: k)) cs w) (lone (b.at a1 (.code c :: .inLoop c :: k)) cs w1) :=
      .head step_loop (Steps.trans harr (.one step_inLoop))
    rcases hQ _ _ _ hq2 with rfl | rfl | ⟨id, rfl⟩
    · refine hpre.trans (steps_skip hstep harr2 fun he => ?_)
      have := congrArg List.length (lone_at he)
      simp at this
    · obtain ⟨todo, hs⟩ := harr2
      refine ⟨todo, hpre.trans (steps_skip hstep hs fun he => ?_)⟩
      simp [lone, Frame.at] at he
    · intro k' hk
      refine hpre.trans (steps_skip hstep (harr2 k' hk) fun he => ?_)
      have h1 := congrArg List.length (lone_at he)
      have h2 := exitTo_len hk
      simp at h1; omega
  | exit id => exact ⟨_, a1, w1, hq, .of_steps (.one step_loop) (.pass (x := .inLoop c) rfl (fun _ _ => .inl (by simp)) harr)⟩
  | goto l => exact ⟨_, a1, w1, hq, .of_steps (.one step_loop) (.pass (x := .inLoop c) rfl (fun _ _ => .inl (by simp)) harr)⟩
  | ret => exact ⟨_, a1, w1, hq, .of_steps (.one step_loop) (.pass (x := .inLoop c) rfl (fun _ _ => .inl (by simp)) harr)⟩
  | panic ch => exact ⟨_, a1, w1, hq, .of_steps (.one step_loop) (.pass (x := .inLoop c) rfl (fun _ _ => .inl (by simp)) harr)⟩
  | outgrown => exact ⟨_, a1, w1, hq, .of_steps (.one step_loop) (.pass (x := .inLoop c) rfl (fun _ _ => .inl (by simp)) harr)⟩

/-- A loop is one round, and the loop again. -/
theorem sw_unroll {b : ACode} {s : List Item} {Q : APost} {e : Env} {H : AHeap} (h : SW P hints N k (.code b :: .code (.loop b) :: s) Q e H) : SW P hints N k (.code (.loop b) :: s) Q e H := by
  have h0 := h
  rw [SW_code] at h ⊢
  intro c hc
  cases c <;> simp only [ccode] at hc <;> first | (cases hc; done) | skip
  case loop c' =>
    split at hc
    · rename_i b' hb; cases hc
      intro ρ Pr hh a w hs
      have hx : ∀ x a w, Post N k ρ Pr hh (Cont P hints N k s Q) x a w → x = .normal ∨ x = .ret ∨ ∃ id, x = .exit id := by
        rintro x a w ⟨ρ', e', H', hq, _⟩
        cases x with
        | normal => exact .inl rfl
        | ret => exact .inr (.inl rfl)
        | exit id => exact .inr (.inr ⟨id, rfl⟩)
        | goto l => exact hq.elim
        | panic c => exact hq.elim
        | outgrown => exact hq.elim
      refine wp_loop_once hx (wp_mono (h c' hb ρ Pr hh a w hs) fun x a' w' ⟨ρ', e', H', hq, hs', hk'⟩ => ?_)
      have hcl : ccode P hints N (.loop c') = some (.loop b) := by simp only [ccode, hb]
      cases x with
      | normal =>
        have hq' : SW P hints N k (.code (.loop b) :: s) Q e' H' := hq
        rw [SW_code] at hq'
        exact wp_mono (hq' _ hcl ρ' Pr hh a' w' hs') fun _ _ _ hp => hp.trans hk'
      | exit id =>
        refine ⟨ρ', e', H', ?_, hs', hk'⟩
        simp only [Cont] at hq ⊢
        rw [SX] at hq
        · exact hq
        · intro _ hh; cases hh
      | ret => exact ⟨ρ', e', H', hq, hs', hk'⟩
      | goto l => exact hq.elim
      | panic c => exact hq.elim
      | outgrown => exact hq.elim
    · cases hc
  all_goals (split at hc <;> first | (cases hc; done) | (split at hc <;> cases hc; done))

theorem exitE_er {id : Nat} : ∀ {s : List EItem}, exitS id (s.map EItem.er) = (exitE id s).map (List.map EItem.er)
  | [] => rfl
  | .blk id' :: s => by
    simp only [List.map_cons, EItem.er, exitS, exitE]
    split
    · rfl
    · exact exitE_er
  | .code c :: s => by simp only [List.map_cons, EItem.er, exitS, exitE]; exact exitE_er
  | .ops l :: s => by simp only [List.map_cons, EItem.er, exitS, exitE]; exact exitE_er
theorem exitE_ok {id : Nat} : ∀ {s s' : List EItem}, s.all EItem.ok = true → exitE id s = some s' → s'.all EItem.ok = true
  | [], _, _, h => by cases h
  | .blk id' :: s, s', ho, h => by
    simp only [exitE] at h
    simp only [List.all_cons, Bool.and_eq_true] at ho
    split at h
    · cases h; exact ho.2
    · exact exitE_ok ho.2 h
  | .code c :: s, s', ho, h => by simp only [List.all_cons, Bool.and_eq_true] at ho; exact exitE_ok ho.2 h
  | .ops l :: s, s', ho, h => by simp only [List.all_cons, Bool.and_eq_true] at ho; exact exitE_ok ho.2 h

theorem aeff_len {o : AOp} {e : Env} {H H' : AHeap} {C : Prop} {v : Value} (h : aeff o e H = some (C, v, H')) : H.length ≤ H'.length := by
  have : step1 o e H = some (C, v, H') ∨ ∃ r, aq o e H = some r := by
    unfold step1
    cases hq : aq o e H with
    | none => exact .inl h
    | some r => exact .inr ⟨r, rfl⟩
  rcases this with h1 | ⟨r, hr⟩
  · exact step1_len h1
  · have hs : o.sync = true := by
      cases hs : o.sync with
      | true => rfl
      | false => rw [aeff_quiet hs] at h; cases h
    rw [aq_sync hs] at hr; cases hr

theorem stE_ok {o : AOp} {e : Env} {H H' : AHeap} {v : Value} (h : stE o e H = some (v, H')) : ∃ C, step1 o e H = some (C, v, H') ∧ C := by
  unfold stE at h
  unfold step1
  split at h
  · rename_i hq
    split at h
    · rename_i hc; cases h
      exact ⟨_, by rw [hq], chkq_ok hc hq⟩
    · cases h
  · rename_i hq
    split at h
    · rename_i ha
      split at h
      · rename_i hc; cases h
        exact ⟨_, by rw [hq]; exact ha, chke_ok hc ha⟩
      · cases h
    · cases h

theorem drE_ok {cal : ECal} (hcal : CalOk P cal) {an : List (List Nat)} {K : Env → AHeap → Prop} : ∀ {l : List (Nat × AOper)} {rs : Rs} {e e' : Env} {H H' : AHeap}, drE cal an l rs e H = some (e', H') →
    H.length ≤ H'.length ∧ (K e' H' → DW P an K l rs e H)
  | [], _, e, e', H, H', h => by simp only [drE] at h; cases h; exact ⟨Nat.le_refl _, fun hK => by rw [DW]; exact hK⟩
  | (i, o) :: l, rs, e, e', H, H', h => by
    rw [DW_cons]
    simp only [drE] at h
    split at h
    · cases h
    · rename_i hw
      obtain ⟨h1, h2⟩ := drE_ok hcal (K := K) h
      exact ⟨h1, fun hK => by simp only [hw, Bool.false_eq_true, if_false]; exact h2 hK⟩
    · rename_i hw
      simp only [hw, if_true]
      split at h
      · rename_i hs
        simp only [hs, if_true]
        split at h
        · rename_i f vs hc
          simp only [hc]
          split at h
          · rename_i v H1 hv
            split at h
            · rename_i hre
              obtain ⟨h1, h2⟩ := drE_ok hcal (K := K) h
              obtain ⟨h3, h4, h5⟩ := hcal _ _ _ _ _ hv
              exact ⟨Nat.le_trans h3 h1, fun hK => ⟨h4, h5.mono fun v1 H2 ⟨hv1, hH1⟩ => by subst hv1; subst hH1; exact ⟨recheckB_ok hre, h2 hK⟩⟩⟩
            · cases h
          · cases h
        · rename_i hc
          simp only [hc]
          split at h
          · rename_i ha
            split at h
            · rename_i hre
              rw [Bool.and_eq_true] at hre
              obtain ⟨h1, h2⟩ := drE_ok hcal (K := K) h
              simp only [ha]
              exact ⟨Nat.le_trans (aeff_len ha) h1, fun hK => ⟨chke_ok hre.1 ha, recheckB_ok hre.2, h2 hK⟩⟩
            · cases h
          · cases h
      · rename_i hs
        simp only [hs, Bool.false_eq_true, if_false]
        split at h
        · rename_i ha
          split at h
          · rename_i hre
            obtain ⟨h1, h2⟩ := drE_ok hcal (K := K) h
            simp only [ha]
            exact ⟨h1, fun hK => ⟨chkq_ok hre ha, h2 hK⟩⟩
          · cases h
        · cases h

theorem exE_ok (hmix : P.follows .mixedOrders = true) {cal : ECal} (hcal : CalOk P cal) : ∀ (m : Nat) {s : List EItem} {e e' : Env} {H H' : AHeap} {x : Exit}, s.all EItem.ok = true → exE cal m s e H = some (x, e', H') →
    H.length ≤ H'.length ∧ ∀ (Q : APost), k ≤ H.length → (x = .normal ∨ x = .ret ∨ (∃ id, x = .exit id)) ∧ (Q x e' H' → SW P hints N k (s.map EItem.er) Q e H) := by
  intro m
  induction m with
  | zero => intro s e e' H H' x _ h; cases h
  | succ m ih =>
    intro s e e' H H' x hok h
    unfold exE at h
    split at h
    · cases h; exact ⟨Nat.le_refl _, fun Q hk => ⟨.inl rfl, fun hQ => by rw [List.map_nil, SW]; exact hQ⟩⟩
    · rename_i id s
      simp only [List.all_cons, Bool.and_eq_true] at hok
      obtain ⟨h1, h2⟩ := ih hok.2 h
      exact ⟨h1, fun Q hk => ⟨(h2 Q hk).1, fun hQ => by rw [List.map_cons, EItem.er, SW]; exact (h2 Q hk).2 hQ⟩⟩
    · rename_i s
      simp only [List.all_cons, Bool.and_eq_true] at hok
      obtain ⟨h1, h2⟩ := ih hok.2 h
      exact ⟨h1, fun Q hk => ⟨(h2 Q hk).1, fun hQ => by rw [List.map_cons, EItem.er]; exact sw_ops_nil ((h2 Q hk).2 hQ)⟩⟩
    · rename_i o l s
      have hok' : (EItem.ops l :: s).all EItem.ok = true := by
        simp only [List.all_cons, Bool.and_eq_true] at hok ⊢; exact ⟨rfl, hok.2⟩
      split at h
      · cases h
      · rename_i hw
        obtain ⟨h1, h2⟩ := ih hok' h
        exact ⟨h1, fun Q hk => ⟨(h2 Q hk).1, fun hQ => sw_ops_not hw ((h2 Q hk).2 hQ)⟩⟩
      · rename_i hw
        split at h
        · rename_i f vs hc
          split at h
          · rename_i v H1 hv
            obtain ⟨h1, h2⟩ := ih hok' h
            obtain ⟨h3, ⟨fn, cc, g1, g2, g3⟩, h5⟩ := hcal _ _ _ _ _ hv
            exact ⟨Nat.le_trans h3 h1, fun Q hk => ⟨(h2 Q (Nat.le_trans hk h3)).1, fun hQ => sw_call hk hw hc g1 g2 g3 (h5.mono fun v1 H2 ⟨hv1, hH1⟩ => by
              subst hv1; subst hH1; exact (h2 Q (Nat.le_trans hk h3)).2 hQ)⟩⟩
          · cases h
        · split at h
          · rename_i v H1 hst
            obtain ⟨C, hs1, hC⟩ := stE_ok hst
            have h3 := step1_len hs1
            obtain ⟨h1, h2⟩ := ih hok' h
            exact ⟨Nat.le_trans h3 h1, fun Q hk => ⟨(h2 Q (Nat.le_trans hk h3)).1, fun hQ => sw_ops_step hk hw hs1 hC ((h2 Q (Nat.le_trans hk h3)).2 hQ)⟩⟩
          · cases h
    · rename_i c s
      have hos : s.all EItem.ok = true := by simp only [List.all_cons, Bool.and_eq_true] at hok; exact hok.2
      have hoc : c.ok = true := by simp only [List.all_cons, Bool.and_eq_true] at hok; exact hok.1
      split at h
      · obtain ⟨h1, h2⟩ := ih hos h
        exact ⟨h1, fun Q hk => ⟨(h2 Q hk).1, fun hQ => sw_skip ((h2 Q hk).2 hQ)⟩⟩
      · rename_i l
        obtain ⟨h1, h2⟩ := ih (s := .ops l :: s) (by simp only [List.all_cons, Bool.and_eq_true]; exact ⟨rfl, hos⟩) h
        exact ⟨h1, fun Q hk => ⟨(h2 Q hk).1, fun hQ => sw_region ((h2 Q hk).2 hQ)⟩⟩
      · rename_i l af an fl plan
        split at h
        · rename_i e1 H1 hd
          obtain ⟨h1, h2⟩ := ih hos h
          have h3 := fun Q => drE_ok hcal (K := SW P hints N k (s.map EItem.er) Q) hd
          exact ⟨Nat.le_trans (h3 (fun _ _ _ => True)).1 h1, fun Q hk => ⟨(h2 Q (Nat.le_trans hk (h3 Q).1)).1, fun hQ => sw_draw hmix hoc hk ((h3 Q).2 ((h2 Q (Nat.le_trans hk (h3 Q).1)).2 hQ))⟩⟩
        · cases h
      · rename_i a b
        have hab : a.ok = true ∧ b.ok = true := by simpa [ECode.ok] using hoc
        obtain ⟨h1, h2⟩ := ih (s := .code a :: .code b :: s) (by simp only [List.all_cons, Bool.and_eq_true]; exact ⟨hab.1, hab.2, hos⟩) h
        exact ⟨h1, fun Q hk => ⟨(h2 Q hk).1, fun hQ => sw_seq ((h2 Q hk).2 hQ)⟩⟩
      · rename_i y a b
        have hab : a.ok = true ∧ b.ok = true := by simpa [ECode.ok] using hoc
        have hcx : ∀ t, toB (ev e y) = some t → ev e y = some (.bool t) := by
          intro t ht
          cases hx : ev e y with
          | none => rw [hx] at ht; cases ht
          | some v => rw [hx] at ht; cases v <;> simp [toB] at ht; rw [ht]
        split at h
        · rename_i ht
          obtain ⟨h1, h2⟩ := ih (s := .code a :: s) (by simp only [List.all_cons, Bool.and_eq_true]; exact ⟨hab.1, hos⟩) h
          exact ⟨h1, fun Q hk => ⟨(h2 Q hk).1, fun hQ => sw_cond (hcx _ ht) (by rw [if_pos rfl]; exact (h2 Q hk).2 hQ)⟩⟩
        · rename_i ht
          obtain ⟨h1, h2⟩ := ih (s := .code b :: s) (by simp only [List.all_cons, Bool.and_eq_true]; exact ⟨hab.2, hos⟩) h
          exact ⟨h1, fun Q hk => ⟨(h2 Q hk).1, fun hQ => sw_cond (hcx _ ht) (by rw [if_neg (by simp)]; exact (h2 Q hk).2 hQ)⟩⟩
        · cases h
      · rename_i id b
        obtain ⟨h1, h2⟩ := ih (s := .code b :: .blk id :: s) (by simp only [List.all_cons, Bool.and_eq_true]; exact ⟨by simpa [ECode.ok, EItem.ok] using hoc, rfl, hos⟩) h
        exact ⟨h1, fun Q hk => ⟨(h2 Q hk).1, fun hQ => sw_block ((h2 Q hk).2 hQ)⟩⟩
      · rename_i b
        have hob : ([EItem.code b] : List EItem).all EItem.ok = true := by simpa [ECode.ok, EItem.ok] using hoc
        have rnd : ∀ (r : Nat) {e e' : Env} {H H' : AHeap} {x : Exit}, rndE (exE cal m [.code b]) r e H = some (x, e', H') → H.length ≤ H'.length ∧
            ∀ (K : APost), k ≤ H.length → (x = .ret ∨ ∃ id, x = .exit id) ∧ (K x e' H' → AR P hints N k b.er K r e H) := by
          intro r
          induction r with
          | zero => intro e e' H H' x h; cases h
          | succ r ihr =>
            intro e e' H H' x h
            simp only [rndE] at h
            split at h
            · rename_i e1 H1 hb
              obtain ⟨h1, h2⟩ := ih hob hb
              obtain ⟨h3, h4⟩ := ihr h
              refine ⟨Nat.le_trans h1 h3, fun K hk => ⟨(h4 K (Nat.le_trans hk h1)).1, fun hK => ?_⟩⟩
              have h5 := (h4 K (Nat.le_trans hk h1)).2 hK
              exact aw_of_sw ((h2 (fun x e' H' => match x with | .normal => ∃ e2, (∀ t v, look e2 t = some v → look e' t = some v) ∧ AR P hints N k b.er K r e2 H' | x => K x e' H') hk).2 ⟨_, fun t v hv => by rw [look_prune] at hv; exact hv, h5⟩)
            · rename_i hne
              obtain ⟨h1, h2⟩ := ih hob h
              refine ⟨h1, fun K hk => ⟨?_, fun hK => ?_⟩⟩
              · rcases (h2 K hk).1 with rfl | h | h
                · exact absurd h (hne _ _)
                · exact .inl h
                · exact .inr h
              · refine aw_of_sw ((h2 (fun x e' H' => match x with | .normal => ∃ e2, (∀ t v, look e2 t = some v → look e' t = some v) ∧ AR P hints N k b.er K r e2 H' | x => K x e' H') hk).2 ?_)
                cases x with
                | normal => exact absurd h (hne _ _)
                | _ => exact hK
        split at h
        · rename_i id e1 H1 hr
          obtain ⟨h1, h2⟩ := rnd m hr
          have hcont : ∀ Q, SX P hints N k id (s.map EItem.er) Q e1 H1 → k ≤ H.length → SW P hints N k ((EItem.code (.loop b) :: s).map EItem.er) Q e H := fun Q hx hk =>
            sw_rounds ((h2 _ hk).2 hx)
          split at h
          · rename_i s' hs'
            obtain ⟨h3, h4⟩ := ih (exitE_ok hos hs') h
            refine ⟨Nat.le_trans h1 h3, fun Q hk => ⟨(h4 Q (Nat.le_trans hk h1)).1, fun hQ => hcont Q (exitS_SX ?_) hk⟩⟩
            rw [exitE_er, hs']
            exact (h4 Q (Nat.le_trans hk h1)).2 hQ
          · rename_i hs'
            cases h
            refine ⟨h1, fun Q hk => ⟨.inr (.inr ⟨_, rfl⟩), fun hQ => hcont Q (exitS_SX ?_) hk⟩⟩
            rw [exitE_er, hs']
            exact hQ
        · rename_i e1 H1 hr
          cases h
          obtain ⟨h1, h2⟩ := rnd m hr
          exact ⟨h1, fun Q hk => ⟨.inr (.inl rfl), fun hQ => sw_rounds ((h2 _ hk).2 hQ)⟩⟩
        · cases h
      · rename_i id
        split at h
        · rename_i s' hs'
          obtain ⟨h3, h4⟩ := ih (exitE_ok hos hs') h
          refine ⟨h3, fun Q hk => ⟨(h4 Q hk).1, fun hQ => sw_exit (exitS_SX ?_)⟩⟩
          rw [exitE_er, hs']
          exact (h4 Q hk).2 hQ
        · rename_i hs'
          cases h
          refine ⟨Nat.le_refl _, fun Q hk => ⟨.inr (.inr ⟨_, rfl⟩), fun hQ => sw_exit (exitS_SX ?_)⟩⟩
          rw [exitE_er, hs']
          exact hQ
      · cases h
        exact ⟨Nat.le_refl _, fun Q hk => ⟨.inr (.inl rfl), fun hQ => sw_ret hQ⟩⟩

theorem resE_ok {H : AHeap} {e : Env} : ∀ {os : List AOp} {vs : List Value}, resE os e H = some vs → ∃ C, resA os e H = some (C, vs) ∧ C
  | [], vs, h => by cases h; exact ⟨True, rfl, trivial⟩
  | o :: os, vs, h => by
    simp only [resE] at h
    split at h
    · rename_i hq
      split at h
      · rename_i hc
        split at h
        · rename_i hr; cases h
          obtain ⟨C, h1, h2⟩ := resE_ok hr
          refine ⟨_, by simp only [resA, hq, h1]; rfl, ?_⟩
          exact And.intro (chkq_ok hc hq) h2
        · cases h
      · cases h
    · cases h

theorem evE_ok (hmix : P.follows .mixedOrders = true) {O : ECal} {T : FuncId → Option EFun} (hO : CalOk P O) (hT : ∀ f F, T f = some F → F.code.ok = true ∧ FunOk P F.hints f F.n F.code.er F.res) (m : Nat) : ∀ n, CalOk P (evE O T m n) := by
  intro n
  induction n with
  | zero => intro f args H v H' h; cases h
  | succ n ih =>
    intro f args H v H' h
    unfold evE at h
    split at h
    · rename_i r hr; cases h; exact hO _ _ _ _ _ hr
    · split at h
      · cases h
      · rename_i F hF
        obtain ⟨hok, hfun⟩ := hT f F hF
        split at h
        · rename_i hlen
          split at h
          · rename_i x e' H1 hx
            have hall : ([EItem.code F.code] : List EItem).all EItem.ok = true := by simp only [List.all_cons, List.all_nil, Bool.and_true]; exact hok
            obtain ⟨h1, h2⟩ := exE_ok (hints := F.hints) (N := F.n) (k := H.length) hmix ih m hall hx
            split at h
            · split at h
              · rename_i vs hvs; cases h
                obtain ⟨C, hC1, hC2⟩ := resE_ok hvs
                exact ⟨h1, hfun.there, hfun.calls (nl_iff.1 hlen) ((h2 _ (Nat.le_refl _)).2 ⟨.inl rfl, C, vs, hC1, hC2, rfl, rfl⟩)⟩
              · cases h
            · split at h
              · rename_i vs hvs; cases h
                obtain ⟨C, hC1, hC2⟩ := resE_ok hvs
                exact ⟨h1, hfun.there, hfun.calls (nl_iff.1 hlen) ((h2 _ (Nat.le_refl _)).2 ⟨.inr rfl, C, vs, hC1, hC2, rfl, rfl⟩)⟩
              · cases h
            · cases h
          · cases h
        · cases h
end

/-- Where a code's appends stand. -/
def appPos : Code → List String
  | .region _ ops _ => ops.toList.filterMap fun o => match o.op with | .call c => (match c.callee with | .builtin .append => some o.pos | _ => none) | _ => none
  | .seq a b => appPos a ++ appPos b
  | .cond _ a b => appPos a ++ appPos b
  | .block _ b => appPos b
  | .loop b => appPos b
  | _ => []

/-! ### Plans -/
def availE (an : List (List Nat)) (done : List Nat) (i : Nat) : Bool := (anOf an i).all fun x => done.contains x
def quietE (l : List AOper) (i : Nat) : Bool := match l[i]? with | some o => !o.op.sync | none => false
def nextE (l : List AOper) (an : List (List Nat)) (fl : Option Nat) (done rem : List Nat) : Option Nat :=
  match rem.find? fun i => availE an done i && quietE l i with
  | some i => some i
  | none => rem.find? fun i => availE an done i && rem.all fun z => z == i || (anOf an z).contains i || fl == some z
def planE (l : List AOper) (an : List (List Nat)) (fl : Option Nat) : Nat → List Nat → List Nat → List Nat
  | 0, done, _ => done.reverse
  | n + 1, done, rem => match nextE l an fl done rem with
    | some i => planE l an fl n (i :: done) (rem.filter fun z => !(z == i))
    | none => done.reverse
def prep : ACode → ECode
  | .skip => .skip
  | .ops l => .ops l
  | .dops l af =>
    let an := ancs af
    let try1 := fun fl => let p := planE l an fl l.length [] (List.range l.length); if drawOk l af an fl p = true then some (fl, p) else none
    match (none :: (List.range l.length).map some).findSome? try1 with
    | some (fl, p) => .dops l af an fl p
    | none => .dops l af an none []
  | .seq a b => .seq (prep a) (prep b)
  | .cond c a b => .cond c (prep a) (prep b)
  | .block id b => .block id (prep b)
  | .loop b => .loop (prep b)
  | .exit id => .exit id
  | .ret => .ret
end Go.Abs
