/-
  More rules: a slice held against nil; results told of in other words.
-/
import Derived.Test.YthpclmlfmhjadaaFw30
set_option linter.unusedSectionVars false
set_option linter.unusedSimpArgs false
set_option linter.unusedVariables false
namespace Go.Abs
variable [Gl : Globals]
section
variable {P : Program} {hints : List String} {N k : Nat}

/-- An operation, by what it does in each world. -/
theorem ow_does {o : AOper} {l : List AOper} {K : Env → AHeap → Prop} {e : Env} {H : AHeap} (hk : k ≤ H.length) (hg : wantedA o.guard e = some true)
    (hd : ∀ (x : Oper) (ρ : Emb) (Pr : Nat → Prop) (h0 : Keep) (a : Act) (w : World), cop P hints x = some o.op → ERel ρ e a → Models ρ H Pr h0 w → ∃ v H', Does P ρ Pr h0 a w x v H' ∧ OW P hints N k l K (bind o.dst v e) H') : OW P hints N k (o :: l) K e H := by
  intro ops j all hall hj Q hQ ρ Pr h0 a w hs
  obtain ⟨x, hx, hc, hj', hr⟩ := ow_head hall hj
  obtain ⟨h1, h2, h3, h4⟩ := coper_parts hc
  rw [hr, wpOps_cons]
  unfold wpOp
  simp only [hx, wanted_rel hs.env h4 hg, if_true]
  obtain ⟨v, H', ⟨v', w', ρ', hrun, hl, hv, hM⟩, h⟩ := hd x ρ Pr h0 a w h1 hs.env hs.mem
  rw [h2] at h
  have hnext := h ops (j + 1) all hall hj' Q hQ ρ' Pr h0 _ w' (hs.put hl hM x.dst h3 hv)
  have hag : ∀ i, i < k → ρ' i = ρ i := fun i hi => le_agree hs.mem hl i (by omega)
  have hmono := post_mono_ops (Q := Post N k ρ' Pr h0 Q) (Q' := Post N k ρ Pr h0 Q) (fun x a w hp => hp.trans hag) _ _ _ hnext
  left
  unfold Oper.wp
  rcases hrun with hrun | ⟨hrun, rfl⟩
  · rw [hrun, Oper.upon_value]; exact hmono
  · rw [hrun, Oper.upon_skip]; exact hmono

theorem eqNil_any {x : Oper} {neg : Bool} {y : Operand} {e : Env} {ρ : Emb} {a : Act} {w : World} {q : Option Addr} {n c : Nat} (hc0 : cop P hints x = some (.eqNil neg y)) (hx : ev e y = some (.slice q n c)) (he : ERel ρ e a) :
    ∃ b, (execOp a.eval x).run P w = .ok (.value (.bool b)) w := by
  obtain ⟨dst, op, ty, pos, after, g⟩ := x
  have hc := (cop_cases hc0).resolve_right (by simp)
  clear hc0
  obtain ⟨p, c', hxv, _, _⟩ := ev_slice he hx
  cases op <;> simp only [cop0] at hc
  case binOp op t x' y' yt =>
    split at hc
    · cases hc
    · cases hc
    · split at hc <;> cases hc
    · rename_i hu
      split at hc
      · have hy : a.eval (.const (.slice none 0 0)) = .slice none 0 0 := rfl
        have key : (Op.equal t (.slice p n c') (.slice none 0 0)).run P w = .ok p.isNone w := by
          show (Op.equalIn (9999 + 1) t _ _).run P w = _
          rw [Op.equalIn, Sem.run_bind, run_underlying hu]
          cases p <;> rfl
        split at hc <;> cases hc
        · refine ⟨p.isNone, ?_⟩
          simp only [execOp, hxv, hy]
          rw [Sem.run_bind, Sem.run_bind, guard_none rfl]
          rw [show binOp .eql t (.slice p n c') (.slice none 0 0) = (do pure (.bool (← Op.equal t (.slice p n c') (.slice none 0 0))) : Sem Value) from rfl]
          simp [key]
        · refine ⟨!p.isNone, ?_⟩
          simp only [execOp, hxv, hy]
          rw [Sem.run_bind, Sem.run_bind, guard_none rfl]
          rw [show binOp .neq t (.slice p n c') (.slice none 0 0) = (do pure (.bool (!(← Op.equal t (.slice p n c') (.slice none 0 0)))) : Sem Value) from rfl]
          simp [key]
      · cases hc
    · split at hc <;> cases hc
    · split at hc
      · cases hc
      · split at hc <;> cases hc
    · split at hc
      · split at hc <;> cases hc
      · cases hc
    · cases hc
  case unOp op t x => cases op <;> simp only at hc <;> cases hc
  case makeMap t r => cases r <;> simp only at hc <;> cases hc
  all_goals (repeat' split at hc)
  all_goals (cases hc)

/-- A slice held against nil: either way. -/
theorem sw_eqNil {dst : Option Nat} {neg : Bool} {y : Operand} {l : List AOper} {s : List Item} {Q : APost} {e : Env} {H : AHeap} {q : Option Addr} {n c : Nat} (hk : k ≤ H.length) (hx : ev e y = some (.slice q n c))
    (h : ∀ b, SW P hints N k (.ops l :: s) Q (bind dst (.bool b) e) H) : SW P hints N k (.ops (⟨dst, .eqNil neg y, none⟩ :: l) :: s) Q e H := by
  rw [SW]
  refine ow_does hk rfl fun x ρ Pr h0 a w hc he hm => ?_
  obtain ⟨b, hb⟩ := eqNil_any (w := w) hc hx he
  refine ⟨.bool b, H, ⟨.bool b, w, ρ, .inl hb, Emb.le_refl ρ, .atom rfl, hm⟩, ?_⟩
  have := h b
  rw [SW] at this
  exact this
end

/-- A result told of in fewer words. -/
theorem ACalls.weak {P : Program} {f : FuncId} {args : List Value} {H : AHeap} {R R' : Value → AHeap → Prop} (h : ACalls P f args H R)
    (hr : ∀ v H', R v H' → ∃ v2, (∀ (ρ : Emb) v', VRel ρ v v' → VRel ρ v2 v') ∧ R' v2 H') : ACalls P f args H R' :=
  fun ρ Pr h0 w args' ha hm => (h ρ Pr h0 w args' ha hm).mono fun _ _ ⟨v, v', ρ', H', h1, h2, h3, h4⟩ =>
    let ⟨v2, g1, g2⟩ := hr v H' h2
    ⟨v2, v', ρ', H', h1, g2, g1 _ _ h3, h4⟩

/-- What a call leaves, told of in other words. -/
theorem ACalls.conv {P : Program} {f : FuncId} {args : List Value} {H : AHeap} {R R' : Value → AHeap → Prop} (h : ACalls P f args H R)
    (hr : ∀ v H', R v H' → H.length ≤ H'.length ∧ ∃ v2 H2, R' v2 H2 ∧ ∀ (ρ : Emb) Pr h0 w v', VRel ρ v v' → Models ρ H' Pr h0 w → ∃ ρ' : Emb, (∀ i, i < H'.length → ρ' i = ρ i) ∧ VRel ρ' v2 v' ∧ Models ρ' H2 Pr h0 w) : ACalls P f args H R' :=
  fun ρ Pr h0 w args' ha hm => (h ρ Pr h0 w args' ha hm).mono fun _ w' ⟨v, v', ρ1, H', h1, h2, h3, h4, h5⟩ =>
    let ⟨hl, v2, H2, g1, g2⟩ := hr v H' h2
    let ⟨ρ', g3, g4, g5⟩ := g2 ρ1 Pr h0 w' v' h3 h4
    ⟨v2, v', ρ', H2, h1, g1, g4, g5, fun i hi => (g3 i (by omega)).trans (h5 i hi)⟩

theorem Models.addDead {ρ : Emb} {H : AHeap} {Pr : Nat → Prop} {h0 : Keep} {w : World} (hm : Models ρ H Pr h0 w) : Models (ext ρ H.length ⟨true, 0, 0, 0, 0⟩) (H ++ [.dead]) Pr h0 w :=
  hm.push (L := ⟨true, 0, 0, 0, 0⟩) trivial (fun _ _ _ _ _ _ _ => rfl) (fun h => by cases h) (fun _ h => by cases h) (fun _ _ => rfl) (Nat.le_refl _) ⟨rfl, rfl⟩
end Go.Abs
