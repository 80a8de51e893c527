/-
  The quiet operations are sound (2).
-/
import Derived.Test.YthpclmlfmhjadaaFw4
import Derived.Great.BuildSlice
set_option linter.unusedSectionVars false
set_option linter.unusedSimpArgs false
set_option linter.unusedVariables false
namespace Go.Abs
variable [Gl : Globals]
section
variable {P : Program} {ρ : Emb} {e : Env} {H : AHeap} {a : Act} {w : World} {Pr : Nat → Prop} {h0 : Keep}
variable {pos : String} {dst : Option Tmp} {ty : TypeId} {after : Array Edge} {g : Option (Nat × Bool)} {C : Prop} {v : Value}

theorem mv_sound {op : Op} {x : Operand} (ho : op = .move x ∨ op = .assign x) (hq : aq (.mv x) e H = some (C, v)) (he : ERel ρ e a) : Yields' P ρ a w ⟨dst, op, ty, pos, after, g⟩ v := by
  simp only [aq] at hq
  split at hq
  · rename_i u hu
    cases hq
    refine ⟨a.eval x, ?_, he.ev hu⟩
    rcases ho with rfl | rfl <;> rfl
  · cases hq

theorem pick_sound {c x y : Operand} (hq : aq (.pick c x y) e H = some (C, v)) (he : ERel ρ e a) : Yields' P ρ a w ⟨dst, .pick c x y, ty, pos, after, g⟩ v := by
  simp only [aq] at hq
  split at hq
  · rename_i t ht
    cases t
    · simp only [Bool.false_eq_true, if_false] at hq
      split at hq
      · rename_i u hu; cases hq
        exact ⟨a.eval y, by simp [execOp, ev_bool he ht, asBool], he.ev hu⟩
      · cases hq
    · simp only [if_true] at hq
      split at hq
      · rename_i u hu; cases hq
        exact ⟨a.eval x, by simp [execOp, ev_bool he ht, asBool], he.ev hu⟩
      · cases hq
  · cases hq

theorem neg_sound {t : TypeId} {x : Operand} (hq : aq (.neg x) e H = some (C, v)) (he : ERel ρ e a) : Yields' P ρ a w ⟨dst, .unOp .neg t x, ty, pos, after, g⟩ v := by
  simp only [aq] at hq
  split at hq
  · rename_i k m hx; cases hq
    exact ⟨_, by simp [execOp, ev_int he hx, Op.unary, Op.intArith], .atom rfl⟩
  · cases hq
theorem not_sound {t : TypeId} {x : Operand} (hq : aq (.not x) e H = some (C, v)) (he : ERel ρ e a) : Yields' P ρ a w ⟨dst, .unOp .not t x, ty, pos, after, g⟩ v := by
  simp only [aq] at hq
  split at hq
  · rename_i m hx; cases hq
    exact ⟨_, by simp [execOp, ev_bool he hx, Op.unary], .atom rfl⟩
  · cases hq
theorem cint_sound {s d : TypeId} {k k' : IntKind} {x : Operand} (hs : P.underlying s = some (.int k')) (hd : P.underlying d = some (.int k))
    (hq : aq (.cint k x) e H = some (C, v)) (he : ERel ρ e a) : Yields' P ρ a w ⟨dst, .convert s d x, ty, pos, after, g⟩ v := by
  simp only [aq] at hq
  split at hq
  · rename_i k2 m hx; cases hq
    exact ⟨_, by simp [execOp, ev_int he hx, convert, run_underlying hs, run_underlying hd, Conv.intToInt], .atom rfl⟩
  · cases hq
theorem same_sound {s d : TypeId} {x : Operand} (hs : P.underlying s = some .string) (hd : P.underlying d = some .string)
    (hq : aq (.same x) e H = some (C, v)) (he : ERel ρ e a) : Yields' P ρ a w ⟨dst, .convert s d x, ty, pos, after, g⟩ v := by
  simp only [aq] at hq
  split at hq
  · rename_i m hx; cases hq
    exact ⟨_, by simp [execOp, ev_string he hx, convert, run_underlying hs, run_underlying hd], .atom rfl⟩
  · cases hq
theorem mkI_sound {t : TypeId} {d : TypeDesc} {x : Operand} (hs : P.underlying t = some d) (hd : ∀ ms, d ≠ .interface ms)
    (hq : aq (.mkI t x) e H = some (C, v)) (he : ERel ρ e a) : Yields' P ρ a w ⟨dst, .makeInterface t x, ty, pos, after, g⟩ v := by
  simp only [aq] at hq
  split at hq
  · rename_i m hx; cases hq
    refine ⟨.iface t (a.eval x), ?_, .iface (he.ev hx)⟩
    simp only [execOp, Instr.makeInterface, Sem.run_bind, run_underlying hs, Result.andThen_ok]
    cases d <;> first | rfl | (exact absurd rfl (hd _))
  · cases hq
theorem mkF_sound {fn : Fn} {first cap : Array Operand} (hq : aq (.mkF fn first.toList cap.toList) e H = some (C, v)) (he : ERel ρ e a) :
    Yields' P ρ a w ⟨dst, .makeFunc fn first cap, ty, pos, after, g⟩ v := by
  simp only [aq] at hq
  split at hq
  · rename_i l m hl hm; cases hq
    refine ⟨.func fn (first.map a.eval) (cap.map a.eval), by simp [execOp, Instr.makeFunc], ?_⟩
    have h1 := evs_rel he hl
    have h2 := evs_rel he hm
    rw [show first.map a.eval = ⟨first.toList.map a.eval⟩ by apply Array.ext'; simp, show cap.map a.eval = ⟨cap.toList.map a.eval⟩ by apply Array.ext'; simp]
    exact .func h1 h2
  · cases hq
theorem ex_sound {x : Operand} {i : Nat} (hq : aq (.ex x i) e H = some (C, v)) (he : ERel ρ e a) : Yields' P ρ a w ⟨dst, .extract x i, ty, pos, after, g⟩ v := by
  simp only [aq] at hq
  split at hq
  · rename_i t ht
    split at hq
    · rename_i u hu; cases hq
      have h1 := he.ev ht
      generalize hxv : a.eval x = xv at h1
      cases h1 with
      | atom h => simp [atom] at h
      | tuple h =>
        obtain ⟨v', h2, h3⟩ := h.get hu
        refine ⟨v', ?_, h3⟩
        simp [execOp, hxv, Instr.extract, h2]
    · cases hq
  · cases hq
theorem nilchk_sound {x : Operand} (hq : aq (.nilchk x) e H = some (C, v)) (he : ERel ρ e a) : Yields' P ρ a w ⟨dst, .nilCheck x, ty, pos, after, g⟩ v := by
  simp only [aq] at hq
  split at hq
  · rename_i p hp; cases hq
    have h1 := he.ev hp
    generalize hxv : a.eval x = xv at h1
    refine ⟨xv, ?_, h1⟩
    cases h1 with
    | atom h => simp [atom] at h
    | ptr h h' => simp [execOp, hxv]
  · cases hq
theorem len_sound {x : Operand} {t el : TypeId} {c : Call} (hcal : c.callee = .builtin .len) (hty : c.argTypes[0]? = some t) (hargs : c.args.toList = [x])
    (hu : P.underlying t = some (.slice el))
    (hq : aq (.len x) e H = some (C, v)) (he : ERel ρ e a) : Yields' P ρ a w ⟨dst, .call c, ty, pos, after, g⟩ v := by
  obtain ⟨cal, args, tys⟩ := c
  simp only at hcal hty hargs; subst hcal
  obtain ⟨args⟩ := args
  simp only at hargs; subst hargs
  simp only [aq] at hq
  split at hq
  · rename_i p n c hx; cases hq
    have h1 := he.ev hx
    generalize hxv : a.eval x = xv at h1
    refine ⟨.int .i64 n, ?_, .atom rfl⟩
    have h2 : ∃ p c, xv = .slice p n c := by cases h1 <;> first | exact ⟨_, _, rfl⟩ | (rename_i h; simp [atom] at h)
    obtain ⟨p', c', rfl⟩ := h2
    simp [execOp, resolve, invoke, builtin, Builtin.len_, hty, hxv, run_underlying hu, goInt]
  · cases hq
theorem lenS_sound {x : Operand} {t : TypeId} {c : Call} (hcal : c.callee = .builtin .len) (hty : c.argTypes[0]? = some t) (hargs : c.args.toList = [x])
    (hu : P.underlying t = some .string)
    (hq : aq (.lenS x) e H = some (C, v)) (he : ERel ρ e a) : Yields' P ρ a w ⟨dst, .call c, ty, pos, after, g⟩ v := by
  obtain ⟨cal, args, tys⟩ := c
  simp only at hcal hty hargs; subst hcal
  obtain ⟨args⟩ := args
  simp only at hargs; subst hargs
  simp only [aq] at hq
  split at hq
  · rename_i s hx; cases hq
    refine ⟨_, ?_, .atom rfl⟩
    simp [execOp, resolve, invoke, builtin, Builtin.len_, hty, ev_string he hx, run_underlying hu, goInt]
  · cases hq
theorem fa_sound {s : TypeId} {fs : Array Field} {f : Nat} {fd : Field} {i : TypeInfo} {x : Operand} (hu : P.underlying s = some (.struct fs)) (hf : fs[f]? = some fd) (hi : P.info? fd.type = some i) (hz : i.size ≠ 0)
    (hq : aq (.fa fd.offset x) e H = some (C, v)) (he : ERel ρ e a) : Yields' P ρ a w ⟨dst, .fieldAddr s x f, ty, pos, after, g⟩ v := by
  simp only [aq] at hq
  split at hq
  · rename_i b o hx; cases hq
    obtain ⟨L, hL, hab, hxv⟩ := ev_ptr he hx
    refine ⟨.pointer (some ⟨L.blk, L.base + (o + fd.offset), none⟩), ?_, .ptr hL hab⟩
    simp only [execOp, Instr.fieldAt, Sem.run_bind, run_underlying hu, Result.andThen_ok, hf, hxv, Instr.sureAddr, Sem.run_pure, fieldPlace, run_sizeOf' hi, hz, if_false]
    simp only [Addr.add]
    by_cases h0 : fd.offset = 0
    · simp [h0]
    · simp [h0, Nat.add_assoc]
  · cases hq
theorem ia_sound {t el : TypeId} {inf : TypeInfo} {x i : Operand} (hu : P.underlying t = some (.slice el)) (hi : P.info? el = some inf)
    (hq : aq (.ia inf.size x i) e H = some (C, v)) (hC : C) (he : ERel ρ e a) : Yields' P ρ a w ⟨dst, .indexAddr t x i, ty, pos, after, g⟩ v := by
  simp only [aq] at hq
  split at hq
  · rename_i b o n c k m hx hi'; cases hq
    obtain ⟨h1, h2⟩ := hC
    have hr := he.ev hx
    have hiv := ev_int he hi'
    generalize hxv : a.eval x = xv at hr
    have hadd : ∀ (B O : Nat), Addr.add ⟨B, O, none⟩ (m.toNat * inf.size) = ⟨B, O + m.toNat * inf.size, none⟩ := by
      intro B O; simp only [Addr.add]; split
      · rename_i h; simp [h]
      · rfl
    have fin : ∀ (L : Loc) c', ρ b = some L → L.abs = false → xv = .slice (some ⟨L.blk, L.base + o, none⟩) n c' → Yields' P ρ a w ⟨dst, .indexAddr t x i, ty, pos, after, g⟩ (.pointer (some ⟨b, o + m.toNat * inf.size, none⟩)) := by
      rintro L c' hL hab rfl
      refine ⟨.pointer (some ⟨L.blk, L.base + (o + m.toNat * inf.size), none⟩), ?_, .ptr hL hab⟩
      simp only [execOp, Instr.indexAt, Sem.run_bind, hiv, asIntOf, Sem.run_pure, Result.andThen_ok, run_underlying hu, hxv]
      rw [if_pos ⟨h1, h2⟩]
      simp [run_sizeOf' hi, hadd, Nat.add_assoc]
    cases hr with
    | atom h => simp [atom] at h
    | slice hL hab hc => exact fin _ _ hL hab rfl
    | sliceH hL hab hc => exact fin _ _ hL hab rfl
    | sliceA hL hab hc =>
      obtain ⟨hab', rfl⟩ := hab (by omega)
      exact fin _ _ hL hab' rfl
    | sliceE hL hab => omega
  · cases hq
theorem iaA_sound {t el : TypeId} {len : Nat} {inf : TypeInfo} {x i : Operand} (hu : P.underlying t = some (.array len el)) (hi : P.info? el = some inf) (_h2 : 2 ≤ len)
    (hq : aq (.iaA len inf.size x i) e H = some (C, v)) (hC : C) (he : ERel ρ e a) : Yields' P ρ a w ⟨dst, .indexAddr t x i, ty, pos, after, g⟩ v := by
  simp only [aq] at hq
  split at hq
  · rename_i b o k m hx hi'; cases hq
    obtain ⟨h1, h2⟩ := hC
    obtain ⟨L, hL, hab, hxv⟩ := ev_ptr he hx
    have hiv := ev_int he hi'
    have hadd : ∀ (B O : Nat), Addr.add ⟨B, O, none⟩ (m.toNat * inf.size) = ⟨B, O + m.toNat * inf.size, none⟩ := by
      intro B O; simp only [Addr.add]; split
      · rename_i h; simp [h]
      · rfl
    refine ⟨.pointer (some ⟨L.blk, L.base + (o + m.toNat * inf.size), none⟩), ?_, .ptr hL hab⟩
    simp only [execOp, Instr.indexAt, Sem.run_bind, hiv, asIntOf, Sem.run_pure, Result.andThen_ok, run_underlying hu, hxv, Instr.sureAddr]
    rw [if_pos ⟨h1, h2⟩]
    simp [run_sizeOf' hi, hadd, Nat.add_assoc]
  · cases hq
theorem ix_sound {t : TypeId} {x i : Operand} (hu : P.underlying t = some .string)
    (hq : aq (.ix x i) e H = some (C, v)) (hC : C) (he : ERel ρ e a) : Yields' P ρ a w ⟨dst, .index t x i, ty, pos, after, g⟩ v := by
  simp only [aq] at hq
  split at hq
  · rename_i s k m hx hi'; cases hq
    obtain ⟨h1, h2⟩ := hC
    have hlt : m.toNat < s.size := by omega
    refine ⟨_, ?_, .atom rfl⟩
    simp only [execOp, Instr.index, Sem.run_bind, ev_int he hi', asIntOf, Sem.run_pure, Result.andThen_ok, run_underlying hu, ev_string he hx]
    rw [if_pos h1]
    have : s[m.toNat]? = some (s.data.toList[m.toNat]'(by simpa using hlt)) := by
      rw [getElem?_pos s m.toNat hlt]; rfl
    rw [this]
    have h3 : s.data.toList[m.toNat]? = some (s.data.toList[m.toNat]'(by simpa using hlt)) := List.getElem?_eq_getElem _
    rw [h3]; rfl
  · cases hq
theorem load_sound' {t : TypeId} {d : TypeDesc} {inf : TypeInfo} {x : Operand} (hu : P.underlying t = some d) (hi : P.info? t = some inf) (hm : Models ρ H Pr h0 w)
    (hq : aq (.load (isStruct d) inf.size x) e H = some (C, v)) (hC : C) (he : ERel ρ e a) : Yields' P ρ a w ⟨dst, .load t x, ty, pos, after, g⟩ v := by
  simp only [aq] at hq
  split at hq
  · rename_i i off hx
    split at hq
    · rename_i c hc
      obtain ⟨L, hL, hab, hxv⟩ := ev_ptr he hx
      have key : ∀ {v}, ((isStruct d = true ∧ off + inf.size ≤ c.length ∧ v = .agg ⟨(c.drop off).take inf.size⟩) ∨ (isStruct d = false ∧ c[off]? = some v)) → Yields' P ρ a w ⟨dst, .load t x, ty, pos, after, g⟩ v := by
        intro v h
        obtain ⟨v', h1, h2⟩ := load_sound hu hi hm hc hL hab h
        exact ⟨v', by simp [execOp, hxv, h1], h2⟩
      split at hq
      · rename_i hs; cases hq
        exact key (.inl ⟨hs, hC, rfl⟩)
      · rename_i hs
        split at hq
        · rename_i u hu'; cases hq
          exact key (.inr ⟨by simpa using hs, hu'⟩)
        · cases hq
    · cases hq
  · cases hq
theorem max_run (k : IntKind) (m n : Int) : (Builtin.max2 (.int k m) (.int k n)).run P w = .ok (.int k (max m n)) w := by
  have : (if n > m then n else m) = max m n := by rw [Int.max_def]; split <;> split <;> omega
  simp only [Builtin.max2, this, Sem.run_pure]
theorem min_run (k : IntKind) (m n : Int) : (Builtin.min2 (.int k m) (.int k n)).run P w = .ok (.int k (min m n)) w := by
  have : (if n < m then n else m) = min m n := by rw [Int.min_def]; split <;> split <;> omega
  simp only [Builtin.min2, this, Sem.run_pure]
theorem mn3_sound {x y z : Operand} {c : Call} (hcal : c.callee = .builtin .min) (hargs : c.args.toList = [x, y, z])
    (hq : aq (.mn3 x y z) e H = some (C, v)) (he : ERel ρ e a) : Yields' P ρ a w ⟨dst, .call c, ty, pos, after, g⟩ v := by
  obtain ⟨cal, args, tys⟩ := c
  simp only at hcal hargs; subst hcal
  obtain ⟨args⟩ := args
  simp only at hargs; subst hargs
  simp only [aq] at hq
  split at hq
  · rename_i k m k' n k2 o hx hy hz
    split at hq
    · rename_i hk; obtain ⟨hk1, hk2⟩ := hk; subst hk1; subst hk2; cases hq
      refine ⟨_, ?_, .atom rfl⟩
      simp [execOp, resolve, invoke, builtin, Builtin.min_, ev_int he hx, ev_int he hy, ev_int he hz, min_run]
    · cases hq
  · cases hq
theorem mx_sound {x y : Operand} {c : Call} (hcal : c.callee = .builtin .max) (hargs : c.args.toList = [x, y])
    (hq : aq (.mx x y) e H = some (C, v)) (he : ERel ρ e a) : Yields' P ρ a w ⟨dst, .call c, ty, pos, after, g⟩ v := by
  obtain ⟨cal, args, tys⟩ := c
  simp only at hcal hargs; subst hcal
  obtain ⟨args⟩ := args
  simp only at hargs; subst hargs
  simp only [aq] at hq
  split at hq
  · rename_i k m k' n hx hy
    split at hq
    · rename_i hk; subst hk; cases hq
      refine ⟨_, ?_, .atom rfl⟩
      simp [execOp, resolve, invoke, builtin, Builtin.max_, ev_int he hx, ev_int he hy, max_run]
    · cases hq
  · cases hq
theorem mn_sound {x y : Operand} {c : Call} (hcal : c.callee = .builtin .min) (hargs : c.args.toList = [x, y])
    (hq : aq (.mn x y) e H = some (C, v)) (he : ERel ρ e a) : Yields' P ρ a w ⟨dst, .call c, ty, pos, after, g⟩ v := by
  obtain ⟨cal, args, tys⟩ := c
  simp only at hcal hargs; subst hcal
  obtain ⟨args⟩ := args
  simp only at hargs; subst hargs
  simp only [aq] at hq
  split at hq
  · rename_i k m k' n hx hy
    split at hq
    · rename_i hk; subst hk; cases hq
      refine ⟨_, ?_, .atom rfl⟩
      simp [execOp, resolve, invoke, builtin, Builtin.min_, ev_int he hx, ev_int he hy, min_run]
    · cases hq
  · cases hq
end
end Go.Abs
