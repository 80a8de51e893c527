/-
  The quiet operations are sound: in every world that the abstract memory tells of they yield a value that is the abstract one's.
-/
import Derived.Test.YthpclmlfmhjadaaFw3
set_option linter.unusedSectionVars false
set_option linter.unusedSimpArgs false
set_option linter.unusedVariables false
namespace Go.Abs
variable [Gl : Globals]
section
variable {P : Program} {ρ : Emb} {e : Env} {H : AHeap} {a : Act} {w : World} {Pr : Nat → Prop} {h0 : Keep}

/-- The operation yields a value that is the abstract one's, and leaves the very world. -/
def Yields' (P : Program) (ρ : Emb) (a : Act) (w : World) (o : Oper) (v : Value) : Prop :=
  ∃ v', (execOp a.eval o).run P w = .ok (.value v') w ∧ VRel ρ v v'

theorem ibin_sound {op : BinOp} {k k' : IntKind} {x y : Int} {C : Prop} {v : Value} {t : TypeId} (hk : op = .shl ∨ op = .shr ∨ k = k') (h : ibin op k x y = some (C, v)) (hC : C) :
    (binOp op t (.int k x) (.int k' y)).run P w = .ok v w ∧ atom v = true := by
  cases op <;> simp only [ibin] at h <;> first | cases h | skip
  case shl => simp only [binOp, Op.shift]; simp [show ¬ y < 0 by omega, atom]
  case shr => simp only [binOp, Op.shift]; simp [show ¬ y < 0 by omega, atom]
  all_goals
    have hkk : k = k' := by simpa using hk
    subst hkk
    first
    | (simp [binOp, Op.intArith, atom]; done)
    | (simp [binOp, Op.intDiv, hC, atom]; done)
    | (simp [binOp, Op.intBits, atom, iand, ior, ixor, wrapB]; done)
    | (simp [binOp, Op.intCmp, atom]; done)

theorem sbin_sound {op : BinOp} {x y : ByteArray} {C : Prop} {v : Value} {t : TypeId} (h : sbin op x y = some (C, v)) (hC : C) :
    (binOp op t (.string x) (.string y)).run P w = .ok v w ∧ atom v = true := by
  cases op <;> simp only [sbin] at h <;> cases h
  case add =>
    have : ¬ (((x.size + y.size : Nat) : Int) > IntKind.i64.max) := by
      have : IntKind.i64.max = 9223372036854775807 := by decide
      rw [this]; omega
    simp only [binOp, Op.stringOp]
    rw [if_neg this]
    exact ⟨rfl, rfl⟩
  all_goals exact ⟨rfl, rfl⟩

theorem guard_none {op : BinOp} {t : TypeId} {x y : Operand} {u v : Value} (h : (match u, v with | .nilIface, .nilIface => false | .agg _, .agg _ => false | _, _ => true) = true) :
    (eqGuard op t x y u v).run P w = .ok () w := by
  unfold eqGuard
  split <;> first | rfl | (cases u <;> cases v <;> first | rfl | (simp at h; done))

theorem guard_ne {op : BinOp} {t : TypeId} {x y : Operand} {u v : Value} (h : op ≠ .eql) (h' : op ≠ .neq) :
    (eqGuard op t x y u v).run P w = .ok () w := by
  unfold eqGuard
  cases op <;> first | exact absurd rfl h | exact absurd rfl h' | rfl

theorem bin_sound {pos : String} {dst : Option Tmp} {ty yt : TypeId} {after : Array Edge} {g : Option (Nat × Bool)} {op : BinOp} {t : TypeId} {x y : Operand} {C : Prop} {v : Value}
    (hq : aq (.bin op x y) e H = some (C, v)) (hC : C) (he : ERel ρ e a) : Yields' P ρ a w ⟨dst, .binOp op t x y yt, ty, pos, after, g⟩ v := by
  simp only [aq] at hq
  split at hq
  · rename_i k m k' n hx hy
    split at hq
    · rename_i hk
      obtain ⟨h1, h2⟩ := ibin_sound (P := P) (w := w) (t := t) hk hq hC
      refine ⟨v, ?_, .atom h2⟩
      simp only [execOp, ev_int he hx, ev_int he hy]
      rw [Sem.run_bind, Sem.run_bind, guard_none rfl]
      simp [h1]
    · cases hq
  · cases hq

theorem binS_sound {pos : String} {dst : Option Tmp} {ty yt : TypeId} {after : Array Edge} {g : Option (Nat × Bool)} {op : BinOp} {t : TypeId} {x y : Operand} {C : Prop} {v : Value}
    (hq : aq (.binS op x y) e H = some (C, v)) (hC : C) (he : ERel ρ e a) : Yields' P ρ a w ⟨dst, .binOp op t x y yt, ty, pos, after, g⟩ v := by
  simp only [aq] at hq
  split at hq
  · rename_i m n hx hy
    obtain ⟨h1, h2⟩ := sbin_sound (P := P) (w := w) (t := t) hq hC
    refine ⟨v, ?_, .atom h2⟩
    simp only [execOp, ev_string he hx, ev_string he hy]
    rw [Sem.run_bind, Sem.run_bind, guard_none rfl]
    simp [h1]
  · cases hq

theorem eqB_sound {pos : String} {dst : Option Tmp} {ty yt : TypeId} {after : Array Edge} {g : Option (Nat × Bool)} {op : BinOp} {neg : Bool} {t : TypeId} {x y : Operand} {C : Prop} {v : Value}
    (ho : (op = .eql ∧ neg = false) ∨ (op = .neq ∧ neg = true)) (hu : P.underlying t = some .bool)
    (hq : aq (.eqB neg x y) e H = some (C, v)) (he : ERel ρ e a) : Yields' P ρ a w ⟨dst, .binOp op t x y yt, ty, pos, after, g⟩ v := by
  simp only [aq] at hq
  split at hq
  · rename_i m n hx hy
    cases hq
    refine ⟨_, ?_, .atom rfl⟩
    simp only [execOp, ev_bool he hx, ev_bool he hy]
    rw [Sem.run_bind, Sem.run_bind, guard_none rfl]
    have key : (Op.equal t (.bool m) (.bool n)).run P w = .ok (m == n) w := by
      show (Op.equalIn (9999 + 1) t (.bool m) (.bool n)).run P w = _
      rw [Op.equalIn, Sem.run_bind, run_underlying hu]; rfl
    rcases ho with ⟨rfl, rfl⟩ | ⟨rfl, rfl⟩
    · rw [show binOp .eql t (.bool m) (.bool n) = (do pure (.bool (← Op.equal t (.bool m) (.bool n))) : Sem Value) from rfl]
      simp [key]
    · rw [show binOp .neq t (.bool m) (.bool n) = (do pure (.bool (!(← Op.equal t (.bool m) (.bool n)))) : Sem Value) from rfl]
      simp [key, bne]
  · cases hq

theorem ev_ptrO (he : ERel ρ e a) {x : Operand} {p : Option Addr} (h : ev e x = some (.pointer p)) : ∃ q, a.eval x = .pointer q ∧ q.isNone = p.isNone := by
  have := he.ev h; generalize a.eval x = y at *
  cases this with
  | atom h => exact ⟨p, rfl, rfl⟩
  | ptr h h' => exact ⟨_, rfl, rfl⟩

theorem eqP_sound {pos : String} {dst : Option Tmp} {ty yt el : TypeId} {after : Array Edge} {g : Option (Nat × Bool)} {op : BinOp} {neg : Bool} {t : TypeId} {x y : Operand} {C : Prop} {v : Value}
    (ho : (op = .eql ∧ neg = false) ∨ (op = .neq ∧ neg = true)) (hu : P.underlying t = some (.pointer el))
    (hq : aq (.eqP neg x y) e H = some (C, v)) (he : ERel ρ e a) : Yields' P ρ a w ⟨dst, .binOp op t x y yt, ty, pos, after, g⟩ v := by
  have key : ∀ (p q : Option Addr), (p.isNone ∨ q.isNone) → (binOp op t (.pointer p) (.pointer q)).run P w = .ok (.bool ((p.isNone && q.isNone) != neg)) w := by
    intro p q hpq
    have k1 : (Op.equal t (.pointer p) (.pointer q)).run P w = .ok (p.isNone && q.isNone) w := by
      show (Op.equalIn (9999 + 1) t (.pointer p) (.pointer q)).run P w = _
      rw [Op.equalIn, Sem.run_bind, run_underlying hu]
      cases p <;> cases q <;> first | rfl | (simp at hpq; done)
    rcases ho with ⟨rfl, rfl⟩ | ⟨rfl, rfl⟩
    · rw [show binOp .eql t (.pointer p) (.pointer q) = (do pure (.bool (← Op.equal t (.pointer p) (.pointer q))) : Sem Value) from rfl]
      simp [k1]
    · rw [show binOp .neq t (.pointer p) (.pointer q) = (do pure (.bool (!(← Op.equal t (.pointer p) (.pointer q)))) : Sem Value) from rfl]
      simp [k1, bne]
  have fin : ∀ (p q : Option Addr), a.eval x = .pointer p → a.eval y = .pointer q → (p.isNone ∨ q.isNone) → v = .bool ((p.isNone && q.isNone) != neg) →
      Yields' P ρ a w ⟨dst, .binOp op t x y yt, ty, pos, after, g⟩ v := by
    intro p q hx hy hpq hv
    refine ⟨v, ?_, ?_⟩
    · simp only [execOp, hx, hy]
      rw [Sem.run_bind, Sem.run_bind, guard_none rfl]
      simp [key p q hpq, hv]
    · rw [hv]; exact .atom rfl
  simp only [aq] at hq
  split at hq
  · rename_i hx hy
    cases hq
    obtain ⟨p, h1, h2⟩ := ev_ptrO he hx
    obtain ⟨q, h3, h4⟩ := ev_ptrO he hy
    exact fin p q h1 h3 (by simp [h2]) (by simp [h2, h4])
  · rename_i b hx hy
    cases hq
    obtain ⟨p, h1, h2⟩ := ev_ptrO he hx
    obtain ⟨q, h3, h4⟩ := ev_ptrO he hy
    exact fin p q h1 h3 (by simp [h4]) (by simp [h2, h4])
  · rename_i b hx hy
    cases hq
    obtain ⟨p, h1, h2⟩ := ev_ptrO he hx
    obtain ⟨q, h3, h4⟩ := ev_ptrO he hy
    exact fin p q h1 h3 (by simp [h2]) (by simp [h2, h4])
  · cases hq

theorem ifaceEq_sound {t : TypeId} {ms : Array (String × TypeId)} {xv yv xv' yv' : Value} {r : Bool} (hu : P.underlying t = some (.interface ms))
    (h : ifaceEq xv yv = some r) (hx : VRel ρ xv xv') (hy : VRel ρ yv yv') : (Op.equal t xv' yv').run P w = .ok r w ∧ (∀ c d, ¬ (xv' = .agg c ∧ yv' = .agg d)) := by
  have : (Op.equal t xv' yv').run P w = (Op.equalIn (9998 + 1 + 1) t xv' yv').run P w := rfl
  rw [this, Op.equalIn, Sem.run_bind, run_underlying hu]
  unfold ifaceEq at h
  split at h
  · cases h; cases hx; cases hy; exact ⟨rfl, by simp⟩
  · cases h; cases hx
    cases hy with
    | atom h => simp [atom] at h
    | iface h => exact ⟨rfl, by simp⟩
  · cases h; cases hy
    cases hx with
    | atom h => simp [atom] at h
    | iface h => exact ⟨rfl, by simp⟩
  · cases h

theorem guard_const {op : BinOp} {t : TypeId} {x y : Operand} {u v : Value} (hc : (isConst x || isConst y) = true) (h : ∀ c d, ¬ (u = .agg c ∧ v = .agg d)) :
    (eqGuard op t x y u v).run P w = .ok () w := by
  unfold eqGuard
  split <;> first | rfl | skip
  all_goals
    cases u <;> cases v <;> first
      | rfl
      | exact absurd ⟨rfl, rfl⟩ (h _ _)
      | (cases x <;> cases y <;> first | rfl | (simp [isConst] at hc; done))

theorem bin_in1 (t tt : TypeId) (vv : Value) : binOp .eql t .nilIface (.iface tt vv) = (do pure (.bool (← Op.equal t .nilIface (.iface tt vv))) : Sem Value) := rfl
theorem bin_in2 (t tt : TypeId) (vv : Value) : binOp .neq t .nilIface (.iface tt vv) = (do pure (.bool (!(← Op.equal t .nilIface (.iface tt vv)))) : Sem Value) := rfl
theorem bin_in3 (t tt : TypeId) (vv : Value) : binOp .eql t (.iface tt vv) .nilIface = (do pure (.bool (← Op.equal t (.iface tt vv) .nilIface)) : Sem Value) := rfl
theorem bin_in4 (t tt : TypeId) (vv : Value) : binOp .neq t (.iface tt vv) .nilIface = (do pure (.bool (!(← Op.equal t (.iface tt vv) .nilIface))) : Sem Value) := rfl
theorem bin_in5 (t : TypeId) : binOp .eql t .nilIface .nilIface = (do pure (.bool (← Op.equal t .nilIface .nilIface)) : Sem Value) := rfl
theorem bin_in6 (t : TypeId) : binOp .neq t .nilIface .nilIface = (do pure (.bool (!(← Op.equal t .nilIface .nilIface))) : Sem Value) := rfl

theorem eqI_sound {pos : String} {dst : Option Tmp} {ty yt : TypeId} {after : Array Edge} {g : Option (Nat × Bool)} {op : BinOp} {neg : Bool} {t : TypeId} {ms : Array (String × TypeId)} {x y : Operand} {C : Prop} {v : Value}
    (ho : (op = .eql ∧ neg = false) ∨ (op = .neq ∧ neg = true)) (hu : P.underlying t = some (.interface ms)) (hcst : (isConst x || isConst y) = true)
    (hq : aq (.eqI neg x y) e H = some (C, v)) (he : ERel ρ e a) : Yields' P ρ a w ⟨dst, .binOp op t x y yt, ty, pos, after, g⟩ v := by
  simp only [aq] at hq
  split at hq
  · rename_i xv yv hx hy
    split at hq
    · rename_i r hr; cases hq
      obtain ⟨h1, h2⟩ := ifaceEq_sound (P := P) (w := w) hu hr (he.ev hx) (he.ev hy)
      refine ⟨_, ?_, .atom rfl⟩
      simp only [execOp]
      rw [Sem.run_bind, Sem.run_bind, guard_const hcst h2]
      have hb : ∀ (o : BinOp), (o = .eql ∨ o = .neq) → ∃ r', (binOp o t (a.eval x) (a.eval y)).run P w = .ok r' w ∧ r' = .bool (r != decide (o = .neq)) := by
        intro o ho'
        have hxr := he.ev hx; have hyr := he.ev hy
        generalize a.eval x = xv' at *; generalize a.eval y = yv' at *
        unfold ifaceEq at hr
        split at hr <;> cases hr
        · cases hxr; cases hyr
          rcases ho' with rfl | rfl
          · exact ⟨_, by rw [bin_in5]; simp [h1], rfl⟩
          · exact ⟨_, by rw [bin_in6]; simp [h1], rfl⟩
        · cases hxr
          cases hyr with
          | atom h => simp [atom] at h
          | iface h =>
            rcases ho' with rfl | rfl
            · exact ⟨_, by rw [bin_in1]; simp [h1], rfl⟩
            · exact ⟨_, by rw [bin_in2]; simp [h1], rfl⟩
        · cases hyr
          cases hxr with
          | atom h => simp [atom] at h
          | iface h =>
            rcases ho' with rfl | rfl
            · exact ⟨_, by rw [bin_in3]; simp [h1], rfl⟩
            · exact ⟨_, by rw [bin_in4]; simp [h1], rfl⟩
      obtain ⟨r', h3, h4⟩ := hb op (by rcases ho with ⟨rfl, _⟩ | ⟨rfl, _⟩ <;> simp)
      simp only [Result.andThen_ok, h3, h4]
      rcases ho with ⟨rfl, rfl⟩ | ⟨rfl, rfl⟩ <;> simp
    · cases hq
  · cases hq
end
end Go.Abs
