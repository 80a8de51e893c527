/-
  Operations in the text's order; calls; loops; a function's body.
-/
import Derived.Test.YthpclmlfmhjadaaFw11
set_option linter.unusedSectionVars false
set_option linter.unusedSimpArgs false
set_option linter.unusedVariables false
namespace Go.Abs
variable [Gl : Globals]
section
variable {P : Program} {hints : List String} {N k : Nat}

theorem aeff_sound0 {ρ : Emb} {Pr : Nat → Prop} {h0 : Keep} {e : Env} {H : AHeap} {a : Act} {w : World} {o : Oper} {ao : AOp} {C : Prop} {v : Value} {H' : AHeap}
    (hc : cop0 P hints o = some ao) (hq : aeff ao e H = some (C, v, H')) (hC : C) (he : ERel ρ e a) (hm : Models ρ H Pr h0 w) : Does P ρ Pr h0 a w o v H' := by
  obtain ⟨dst, op, ty, pos, after, g⟩ := o
  cases op <;> simp only [cop0] at hc
  case alloc t =>
    split at hc
    · rename_i hi
      split at hc
      · rename_i hz
        split at hc
        · rename_i hzz; cases hc; exact alloc_sound hi hz hzz hq hm
        · cases hc
      · cases hc
    · cases hc
  case box t x => cases hc; exact box_sound hq he hm
  case buildSlice t len parts =>
    split at hc
    · rename_i hu
      split at hc
      · rename_i hi
        split at hc
        · rename_i hz
          split at hc
          · rename_i hall; cases hc
            exact bslice_sound hu hi hz hall.2.1 (by omega) hall.2.2.1 hq he hm
          · cases hc
        · cases hc
      · cases hc
    · cases hc
  case store t x y =>
    split at hc
    · rename_i hi; cases hc; exact store_sound hi hq hC he hm
    · cases hc
  case call c =>
    split at hc
    · cases hc; simp [aeff] at hq
    · cases hc; simp [aeff] at hq
    · split at hc
      · split at hc <;> cases hc <;> simp [aeff] at hq
      · cases hc
    · split at hc
      · cases hc; simp [aeff] at hq
      · cases hc
    · split at hc
      · cases hc; simp [aeff] at hq
      · cases hc; simp [aeff] at hq
      · cases hc
    · split at hc
      · split at hc <;> cases hc <;> simp [aeff] at hq
      · cases hc
    · rename_i hcal
      split at hc
      · rename_i hty hargs
        split at hc
        · rename_i ht hu
          split at hc
          · rename_i hi
            split at hc
            · rename_i hs; cases hc; exact copy_sound hcal hty hargs ht hu hi hq hC he hm
            · cases hc
          · cases hc
        · cases hc
      · cases hc
    · rename_i hcal
      split at hc
      · rename_i hty hargs
        split at hc
        · rename_i ht
          split at hc
          · rename_i hi
            split at hc
            · rename_i hz
              split at hc
              · rename_i hs; cases hc; exact clear_sound hcal hty hargs ht hi hz hs.1 hs.2.2 hq hC he hm
              · cases hc
            · cases hc
          · cases hc
        · cases hc
      · cases hc
    · rename_i hcal
      split at hc
      · rename_i hty hargs
        split at hc
        · rename_i ht hu
          split at hc
          · rename_i hi
            split at hc
            · rename_i hz
              split at hc
              · rename_i hs; cases hc
                exact app_sound hcal hty hargs ht hu hi hz hs.1 hs.2 hq hC he hm
              · cases hc
            · cases hc
          · cases hc
        · cases hc
      · cases hc
    · cases hc
  case makeSlice t l c =>
    split at hc
    · rename_i hu
      split at hc
      · rename_i hi
        split at hc
        · rename_i hz
          split at hc
          · rename_i hs; cases hc; exact mkS_sound hu hi hz hs.1 hs.2 hq hC he hm
          · split at hc
            · rename_i hs; cases hc; exact mkSN_sound hu hi hz hs.1 hs.2.2 hq hC he hm
            · cases hc
        · cases hc
      · cases hc
    · cases hc
  case convert s d x =>
    split at hc
    · cases hc; simp [aeff] at hq
    · cases hc; simp [aeff] at hq
    · rename_i h1 h2
      split at hc
      · rename_i h3; cases hc; exact s2b_sound h1 h2 h3 hq he hm
      · cases hc
    · split at hc
      · cases hc; simp [aeff] at hq
      · cases hc
    · cases hc
  case lookup t x i ok =>
    split at hc
    · split at hc
      · split at hc
        · split at hc
          · cases hc; simp [aeff] at hq
          · cases hc
        · cases hc
      · cases hc
    · cases hc
  case mapEntry t x i =>
    split at hc
    · rename_i hu
      split at hc
      · rename_i hk hi
        split at hc
        · rename_i hz
          split at hc
          · rename_i hat; cases hc; exact mapEntry_sound hu hk hi hz hat hq he hm
          · cases hc
        · cases hc
      · cases hc
    · cases hc
  case entryStore t m s x => cases hc; exact entryStore_sound hq hC he hm
  case makeMap t r =>
    cases r with
    | none => simp only at hc; cases hc; exact mkMap_sound hq hm
    | some r => cases hc
  case unOp op t x => cases op <;> simp only at hc <;> cases hc <;> simp [aeff] at hq
  all_goals (repeat' split at hc)
  all_goals first
    | (cases hc; done)
    | (cases hc; simp [aeff] at hq; done)

theorem aeff_sound {ρ : Emb} {Pr : Nat → Prop} {h0 : Keep} {e : Env} {H : AHeap} {a : Act} {w : World} {o : Oper} {ao : AOp} {C : Prop} {v : Value} {H' : AHeap}
    (hc : cop P hints o = some ao) (hq : aeff ao e H = some (C, v, H')) (hC : C) (he : ERel ρ e a) (hm : Models ρ H Pr h0 w) : Does P ρ Pr h0 a w o v H' := by
  rcases cop_cases hc with h | rfl
  · exact aeff_sound0 h hq hC he hm
  · simp [aeff] at hq

/-- One step of an operation that is no call: a condition, the value, the memory behind it. -/
def step1 (o : AOp) (e : Env) (H : AHeap) : Option (Prop × Value × AHeap) :=
  match aq o e H with
  | some (C, v) => some (C, v, H)
  | none => aeff o e H

theorem step1_sound {ρ : Emb} {Pr : Nat → Prop} {h0 : Keep} {e : Env} {H : AHeap} {a : Act} {w : World} {o : Oper} {ao : AOp} {C : Prop} {v : Value} {H' : AHeap}
    (hc : cop P hints o = some ao) (hq : step1 ao e H = some (C, v, H')) (hC : C) (he : ERel ρ e a) (hm : Models ρ H Pr h0 w) : Does P ρ Pr h0 a w o v H' := by
  unfold step1 at hq
  split at hq
  · rename_i h; cases hq
    obtain ⟨v', h1, h2⟩ := aq_sound hc h hC he hm
    exact ⟨v', w, ρ, .inl h1, Emb.le_refl ρ, h2, hm⟩
  · exact aeff_sound hc hq hC he hm

theorem coper_parts {ops : Array Oper} {o : Oper} {ao : AOper} (h : coper P hints N ops o = some ao) :
    cop P hints o = some ao.op ∧ ao.dst = o.dst ∧ (∀ d, o.dst = some d → d < N) ∧
      ((o.guard = none ∧ ao.guard = none) ∨ ∃ j b t, o.guard = some (j, b) ∧ (ops[j]?).bind (·.dst) = some t ∧ ao.guard = some (t, b)) := by
  unfold coper at h
  split at h
  · cases h
  · rename_i aop hop
    split at h
    · rename_i hd
      have hd' : ∀ d, o.dst = some d → d < N := by intro d hdd; rw [hdd] at hd; simpa [dstOk] using hd
      split at h
      · rename_i hg; cases h; exact ⟨hop, rfl, hd', .inl ⟨hg, rfl⟩⟩
      · rename_i j b hg
        split at h
        · rename_i t ht; cases h; exact ⟨hop, rfl, hd', .inr ⟨j, b, t, hg, ht, rfl⟩⟩
        · cases h
    · cases h

theorem mapM_get {α β : Type} {f : α → Option β} : ∀ {l : List α} {m : List β}, l.mapM f = some m → l.length = m.length ∧ ∀ (i : Nat) (y : β), m[i]? = some y → ∃ x, l[i]? = some x ∧ f x = some y
  | [], m, h => by simp at h; subst h; simp
  | x :: l, m, h => by
    simp only [List.mapM_cons, Option.bind_eq_bind, Option.pure_def] at h
    cases hx : f x with
    | none => simp [hx] at h
    | some y =>
      cases hl : l.mapM f with
      | none => simp [hx, hl] at h
      | some m' =>
        simp [hx, hl] at h; subst h
        obtain ⟨h1, h2⟩ := mapM_get hl
        refine ⟨by simp [h1], fun i z hz => ?_⟩
        cases i with
        | zero => simp at hz; subst hz; exact ⟨x, rfl, hx⟩
        | succ i => simp at hz ⊢; exact h2 i z hz

theorem StRel.put {ρ ρ' : Emb} {Pr : Nat → Prop} {h0 : Keep} {e : Env} {H H' : AHeap} {a : Act} {w w' : World} (hs : StRel N ρ Pr h0 e H a w) (hl : ρ.le ρ') (hm : Models ρ' H' Pr h0 w')
    (dst : Option Nat) (hd : ∀ d, dst = some d → d < N) {v v' : Value} (hv : VRel ρ' v v') : StRel N ρ' Pr h0 (bind dst v e) H' (a.put dst v') w' :=
  ⟨(hs.env.mono hl).bind dst hv (by rw [hs.size]; exact hd), by
    cases dst with
    | none => exact hs.size
    | some d => simp [Act.put, hs.size], hm⟩

theorem le_agree {ρ ρ' : Emb} {H : AHeap} {Pr : Nat → Prop} {h0 : Keep} {w : World} (hm : Models ρ H Pr h0 w) (hl : ρ.le ρ') : ∀ i, i < H.length → ρ' i = ρ i := by
  intro i hi
  obtain ⟨L, hL, _⟩ := hm.ok i _ (List.getElem?_eq_getElem hi)
  rw [hL]; exact hl i L hL

theorem agree_le {ρ ρ' : Emb} {H : AHeap} {Pr : Nat → Prop} {h0 : Keep} {w : World} (hm : Models ρ H Pr h0 w) (hl : ∀ i, i < H.length → ρ' i = ρ i) : ρ.le ρ' := by
  intro i L hL
  rcases Nat.lt_or_ge i H.length with h | h
  · rw [hl i h]; exact hL
  · rw [hm.bound i h] at hL; cases hL

/-- What the next operation of a region finds: the guard's own tmp. -/
def wantedA (g : Option (Nat × Bool)) (e : Env) : Option Bool := match g with
  | none => some true
  | some (t, b) => match look e t with | some (.bool c) => some (c == b) | some (.tuple ⟨[]⟩) => some false | _ => none

theorem wanted_rel {ρ : Emb} {e : Env} {a : Act} {ops : Array Oper} {o : Oper} {ao : AOper} (he : ERel ρ e a)
    (hg : (o.guard = none ∧ ao.guard = none) ∨ ∃ j b t, o.guard = some (j, b) ∧ (ops[j]?).bind (·.dst) = some t ∧ ao.guard = some (t, b)) {r : Bool} (h : wantedA ao.guard e = some r) :
    Region.wanted o (yielded ops a.tmps) = r := by
  rcases hg with ⟨h1, h2⟩ | ⟨j, b, t, h1, h2, h3⟩
  · rw [h2] at h; cases h; simp [Region.wanted, h1]
  · rw [h3] at h
    simp only [wantedA] at h
    split at h
    · rename_i c hc; cases h
      obtain ⟨v', hv1, hv2⟩ := he.tmps t _ hc
      cases hv2
      simp only [Region.wanted, h1, yielded, h2, Option.bind_some, hv1]
      cases c <;> cases b <;> rfl
    · rename_i hc; cases h
      obtain ⟨v', hv1, hv2⟩ := he.tmps t _ hc
      cases hv2 with
      | atom h => simp [atom] at h
      | tuple h =>
        cases h
        simp only [Region.wanted, h1, yielded, h2, Option.bind_some, hv1]
        rfl
    · cases h

theorem ow_nil {K : Env → AHeap → Prop} {e : Env} {H : AHeap} (h : K e H) : OW P hints N k [] K e H := by
  intro ops j all hall hj Q hQ ρ Pr h0 a w hs
  have hlen := (mapM_get hall).1
  have : ops.size - j = 0 := by
    have := congrArg List.length hj
    simp at this hlen; omega
  rw [this]
  exact ⟨ρ, e, H, hQ _ _ h, hs, fun _ _ => rfl⟩

theorem ow_head {o : AOper} {l : List AOper} {ops : Array Oper} {j : Nat} {all : List AOper} (hall : ops.toList.mapM (coper P hints N ops) = some all) (hj : all.drop j = o :: l) :
    ∃ x, ops[j]? = some x ∧ coper P hints N ops x = some o ∧ all.drop (j + 1) = l ∧ List.range' j (ops.size - j) = j :: List.range' (j + 1) (ops.size - (j + 1)) := by
  obtain ⟨hlen, hget⟩ := mapM_get hall
  have h1 : all[j]? = some o := by
    have := congrArg (·[0]?) hj
    simpa using this
  obtain ⟨x, hx, hc⟩ := hget j o h1
  refine ⟨x, by simpa using hx, hc, ?_, ?_⟩
  · have := congrArg List.tail hj
    simpa [List.tail_drop] using this
  · have : j < ops.size := by
      have h2 := (List.getElem?_eq_some_iff.1 hx).1
      simpa using h2
    rw [show ops.size - j = (ops.size - (j + 1)) + 1 by omega]; rfl

/-- An operation whose guard says no. -/
theorem ow_not {o : AOper} {l : List AOper} {K : Env → AHeap → Prop} {e : Env} {H : AHeap} (hg : wantedA o.guard e = some false)
    (h : OW P hints N k l K (bind o.dst (.tuple #[]) e) H) : OW P hints N k (o :: l) K e H := by
  intro ops j all hall hj Q hQ ρ Pr h0 a w hs
  obtain ⟨x, hx, hc, hj', hr⟩ := ow_head hall hj
  obtain ⟨h1, h2, h3, h4⟩ := coper_parts hc
  rw [hr, wpOps_cons]
  unfold wpOp
  simp only [hx, wanted_rel hs.env h4 hg]
  rw [if_neg (by simp)]
  rw [h2] at h
  exact h ops (j + 1) all hall hj' Q hQ ρ Pr h0 _ w (hs.put (Emb.le_refl ρ) hs.mem x.dst h3 (.tuple .nil))

/-- An operation that is no call. -/
theorem ow_step {o : AOper} {l : List AOper} {K : Env → AHeap → Prop} {e : Env} {H H' : AHeap} {C : Prop} {v : Value} (hk : k ≤ H.length) (hg : wantedA o.guard e = some true) (hs1 : step1 o.op e H = some (C, v, H')) (hC : C)
    (h : OW P hints N k l K (bind o.dst v e) H') : OW P hints N k (o :: l) K e H := by
  intro ops j all hall hj Q hQ ρ Pr h0 a w hs
  obtain ⟨x, hx, hc, hj', hr⟩ := ow_head hall hj
  obtain ⟨h1, h2, h3, h4⟩ := coper_parts hc
  rw [hr, wpOps_cons]
  unfold wpOp
  simp only [hx, wanted_rel hs.env h4 hg, if_true]
  obtain ⟨v', w', ρ', hrun, hl, hv, hM⟩ := step1_sound h1 hs1 hC hs.env hs.mem
  rw [h2] at h
  have hnext := h ops (j + 1) all hall hj' Q hQ ρ' Pr h0 _ w' (hs.put hl hM x.dst h3 hv)
  have hmono : wpOps P ops (Post N k ρ Pr h0 Q) (List.range' (j + 1) (ops.size - (j + 1))) (a.put x.dst v') w' := by
    have key : ∀ (l : List Nat) (a : Act) (w : World), wpOps P ops (Post N k ρ' Pr h0 Q) l a w → wpOps P ops (Post N k ρ Pr h0 Q) l a w := by
      have hag : ∀ i, i < k → ρ' i = ρ i := fun i hi => le_agree hs.mem hl i (by omega)
      have hQQ : ∀ x a w, Post N k ρ' Pr h0 Q x a w → Post N k ρ Pr h0 Q x a w := fun x a w hp => hp.trans hag
      intro l
      induction l with
      | nil => intro a w h; exact hQQ _ _ _ h
      | cons i l ih =>
        intro a w h
        simp only [wpOps] at h ⊢
        split
        · rename_i ho; simp only [ho] at h; exact ih _ _ h
        · rename_i o ho
          simp only [ho] at h
          split
          · rename_i hw
            simp only [hw, if_true] at h
            rcases h with h | ⟨h1, a0, w0, h2⟩
            · left
              unfold Oper.wp at *
              generalize (execOp a.eval o).run P w = r at *
              cases r with
              | ok n w' =>
                cases n <;> simp only [Oper.upon] at h ⊢ <;> first
                  | exact ih _ _ h
                  | exact h.mono fun e w'' he => by
                      cases e <;> first | exact ih _ _ he | exact hQQ _ _ _ he | exact ⟨_, _, hQQ _ _ _ he.choose_spec.choose_spec⟩
                  | exact h.mono fun _ _ he => ih _ _ he
              | halt x w' => cases x <;> simp only [Oper.upon] at h ⊢ <;> exact hQQ _ _ _ h
            · right; exact ⟨h1, a0, w0, hQQ _ _ _ h2⟩
          · rename_i hw
            simp only [hw] at h
            exact ih _ _ h
    exact key _ _ _ hnext
  left
  unfold Oper.wp
  rcases hrun with hrun | ⟨hrun, rfl⟩
  · rw [hrun, Oper.upon_value]; exact hmono
  · rw [hrun, Oper.upon_skip]; exact hmono
end
end Go.Abs
