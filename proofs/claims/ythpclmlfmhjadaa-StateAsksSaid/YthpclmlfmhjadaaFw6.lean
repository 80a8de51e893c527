/-
  The quiet operations are sound (3): slices of slices and strings, bytes to a string, built structs, '=='.
-/
import Derived.Test.YthpclmlfmhjadaaFw5
import Derived.Laws.BytesString
import Derived.Laws.StructEq
set_option linter.unusedSectionVars false
set_option linter.unusedSimpArgs false
set_option linter.unusedVariables false
namespace Go.Abs
variable [Gl : Globals]
section
variable {P : Program} {ρ : Emb} {e : Env} {H : AHeap} {a : Act} {w : World} {Pr : Nat → Prop} {h0 : Keep}
variable {pos : String} {dst : Option Tmp} {ty : TypeId} {after : Array Edge} {g : Option (Nat × Bool)} {C : Prop} {v : Value}

theorem optInt_rel (he : ERel ρ e a) {x : Option Operand} {m : Option Int} (h : optInt e x = some m) :
    (x = none ∧ m = none) ∨ ∃ y k n, x = some y ∧ m = some n ∧ a.eval y = .int k n := by
  cases x with
  | none => simp [optInt] at h; exact .inl ⟨rfl, h.symm⟩
  | some y =>
    simp only [optInt] at h
    split at h
    · rename_i k n hk; cases h; exact .inr ⟨y, k, n, rfl, rfl, ev_int he hk⟩
    · cases h

/-- The bounds of a slice expression, met. -/
theorem bound_run {k : IntKind} {n : Int} {y : Nat} {code : BoundsCode} (h : 0 ≤ n ∧ n ≤ y) : (Instr.sliceBound (.int k n) y code).run P w = .ok n.toNat w := by
  simp only [Instr.sliceBound, asIntOf, Sem.run_bind, Sem.run_pure, Result.andThen_ok]
  rw [if_pos h]; rfl

theorem bounds_run (isSlice : Bool) (len cap : Nat) {lo hi : Option Value} {l h : Option Int} (hl : (lo = none ∧ l = none) ∨ ∃ k n, lo = some (.int k n) ∧ l = some n) (hh : (hi = none ∧ h = none) ∨ ∃ k n, hi = some (.int k n) ∧ h = some n)
    (h1 : 0 ≤ l.getD 0) (h2 : l.getD 0 ≤ h.getD len) (h3 : h.getD len ≤ cap) :
    (Instr.sliceBounds isSlice len cap lo hi none).run P w = .ok ((l.getD 0).toNat, (h.getD len).toNat, cap) w := by
  rcases hh with ⟨rfl, rfl⟩ | ⟨k, n, rfl, rfl⟩ <;> rcases hl with ⟨rfl, rfl⟩ | ⟨k', n', rfl, rfl⟩ <;> simp only [Option.getD_none, Option.getD_some] at h1 h2 h3 ⊢
  · simp [Instr.sliceBounds]
  · simp only [Instr.sliceBounds, Sem.run_bind, Sem.run_pure, Result.andThen_ok]
    rw [bound_run ⟨h1, by omega⟩]; simp
  · simp only [Instr.sliceBounds, Sem.run_bind, Sem.run_pure, Result.andThen_ok]
    rw [bound_run ⟨by omega, h3⟩]; simp
  · simp only [Instr.sliceBounds, Sem.run_bind, Sem.run_pure, Result.andThen_ok]
    rw [bound_run ⟨by omega, h3⟩]
    simp only [Result.andThen_ok]
    rw [bound_run ⟨h1, by omega⟩]; simp

theorem slS_sound {t : TypeId} {x : Operand} {lo hi : Option Operand} (hu : P.underlying t = some .string)
    (hq : aq (.slS x lo hi) e H = some (C, v)) (hC : C) (he : ERel ρ e a) : Yields' P ρ a w ⟨dst, .slice t x lo hi none, ty, pos, after, g⟩ v := by
  simp only [aq] at hq
  split at hq
  · rename_i s l h hx hl hh; cases hq
    obtain ⟨h1, h2, h3⟩ := hC
    refine ⟨_, ?_, .atom rfl⟩
    have hl' : (lo.map a.eval = none ∧ l = none) ∨ ∃ k n, lo.map a.eval = some (.int k n) ∧ l = some n := by
      rcases optInt_rel he hl with ⟨rfl, rfl⟩ | ⟨y, k, n, rfl, rfl, hy⟩
      · exact .inl ⟨rfl, rfl⟩
      · exact .inr ⟨k, n, by simp [hy], rfl⟩
    have hh' : (hi.map a.eval = none ∧ h = none) ∨ ∃ k n, hi.map a.eval = some (.int k n) ∧ h = some n := by
      rcases optInt_rel he hh with ⟨rfl, rfl⟩ | ⟨y, k, n, rfl, rfl, hy⟩
      · exact .inl ⟨rfl, rfl⟩
      · exact .inr ⟨k, n, by simp [hy], rfl⟩
    have hb := bounds_run (P := P) (w := w) false s.size s.size hl' hh' h1 h2 h3
    simp only [execOp, Instr.sliceAt, Sem.run_bind, run_underlying hu, Result.andThen_ok, Instr.slice, ev_string he hx, Option.map_none]
    simp [hb]
  · cases hq

/-- What a slice value shows, in the world. -/
def Shows (ρ : Emb) (w : World) (sz : Nat) (xv xv' : Value) (l : List Value) : Prop :=
  ∃ p q n c c', xv = .slice q n c ∧ xv' = .slice p n c' ∧ ∃ l', VsRel ρ l l' ∧ l'.length = n * sz ∧ (n = 0 ∨ ∃ b o, p = some ⟨b, o, none⟩ ∧ w.rangeAt b o l')
theorem slice_rel (hm : Models ρ H Pr h0 w) {sz : Nat} {xv xv' : Value} {l : List Value} (hs : sliceCells H sz xv = some (C, l)) (hC : C) (hr : VRel ρ xv xv') : Shows ρ w sz xv xv' l := by
  unfold sliceCells at hs
  split at hs
  · rename_i i off n cp
    split at hs
    · rename_i cs hcs; cases hs
      have fin : ∀ (L : Loc) (c' : Nat), ρ i = some L → L.abs = false → xv' = .slice (some ⟨L.blk, L.base + off, none⟩) n c' → Shows ρ w sz (.slice (some ⟨i, off, none⟩) n cp) xv' ((cs.drop off).take (n * sz)) := fun L c' hL hab e =>
        let ⟨l', h1, h2, h3⟩ := range_rel hm hcs hL hab hC
        ⟨_, _, n, cp, c', rfl, e, l', h1, h2, .inr ⟨_, _, rfl, h3⟩⟩
      cases hr with
      | atom h => simp [atom] at h
      | slice hL hab hc => exact fin _ _ hL hab rfl
      | sliceH hL hab hc => exact fin _ _ hL hab rfl
      | sliceA hL hab hc =>
        rcases Nat.eq_zero_or_pos n with rfl | hn
        · exact ⟨_, _, 0, _, _, rfl, rfl, [], by simp; exact .nil, by simp, .inl rfl⟩
        · obtain ⟨hab', rfl⟩ := hab hn
          exact fin _ _ hL hab' rfl
      | sliceE hL hab => exact ⟨_, _, 0, _, 0, rfl, rfl, [], by simp; exact .nil, by simp, .inl rfl⟩
    · cases hs
  · cases hs
    cases hr with
    | atom h => simp [atom] at h
    | sliceN => exact ⟨_, _, 0, _, 0, rfl, rfl, [], .nil, by simp, .inl rfl⟩
    | sliceX => exact ⟨_, _, 0, _, _, rfl, rfl, [], .nil, by simp, .inl rfl⟩
  · cases hs

theorem bytes_atoms : ∀ {l l' : List Value} {b : List UInt8}, bytesOf l = some b → VsRel ρ l l' → ∃ ns : List Int, l' = ns.map (Value.int .u8) ∧ b = ns.map fun n => UInt8.ofNat n.toNat
  | _, _, b, hb, .nil => by simp [bytesOf] at hb; subst hb; exact ⟨[], rfl, rfl⟩
  | v :: l, _, b, hb, .cons (v' := v') (l' := l') hv hvs => by
    unfold bytesOf at hb
    split at hb
    · rename_i h; cases h
    · rename_i n r heq
      cases heq
      split at hb
      · rename_i b' hb'; cases hb
        obtain ⟨ns, rfl, rfl⟩ := bytes_atoms hb' hvs
        cases hv
        exact ⟨n :: ns, rfl, rfl⟩
      · cases hb
    · cases hb

theorem foldl_push (ns : List Int) : ∀ s : ByteArray, ns.foldl (fun r n => r.push (UInt8.ofNat n.toNat)) s = ⟨s.data ++ (ns.map fun n => UInt8.ofNat n.toNat).toArray⟩ := by
  induction ns with
  | nil => intro s; simp
  | cons n ns ih => intro s; rw [List.foldl_cons, ih]; simp [ByteArray.push]

theorem b2s_sound {s d el : TypeId} {x : Operand} (hs : P.underlying s = some (.slice el)) (hd : P.underlying d = some .string) (hel : P.underlying el = some (.int .u8)) (hm : Models ρ H Pr h0 w)
    (hq : aq (.b2s x) e H = some (C, v)) (hC : C) (he : ERel ρ e a) : Yields' P ρ a w ⟨dst, .convert s d x, ty, pos, after, g⟩ v := by
  simp only [aq] at hq
  split at hq
  · rename_i xv hx
    split at hq
    · rename_i c l hl
      split at hq
      · rename_i b hb; cases hq
        obtain ⟨p, q, n, cp, c', rfl, hxv, l', hr, hlen, hat⟩ := slice_rel hm hl hC (he.ev hx)
        obtain ⟨ns, rfl, rfl⟩ := bytes_atoms hb hr
        have key : (Conv.bytesToString (.slice p n c')).run P w = .ok (.string ⟨(ns.map fun n => UInt8.ofNat n.toNat).toArray⟩) w := by
          cases p with
          | none =>
            have : n = 0 := by rcases hat with h | ⟨_, _, h, _⟩; exact h; cases h
            subst this
            have : ns = [] := by cases ns; rfl; simp at hlen
            subst this; rfl
          | some A =>
            have hload : (loadCells A n).run P w = .ok (ns.map (Value.int .u8)).toArray w := by
              have hn : n = (ns.map (Value.int .u8)).length := by rw [hlen]; omega
              rw [hn]
              refine run_loadCells_list w A _ (fun j u hu => ?_)
              rcases hat with h | ⟨b, o, hA, h3⟩
              · subst h; have : ns = [] := by cases ns; rfl; simp at hlen
                subst this; simp at hu
              · cases hA; rw [Addr.add_mid]; exact h3 j u hu
            rw [run_bytesToString w A n c' ns hload, foldl_push]
            simp [ByteArray.empty, ByteArray.emptyWithCapacity]
            rfl
        refine ⟨_, ?_, .atom rfl⟩
        simp only [execOp, hxv, Sem.run_bind, run_convert_bytes_string w s d el p n c' hs hel hd, key]
        rfl
      · cases hq
    · cases hq
  · cases hq

/-! ### x[lo:hi:mx] -/
theorem add_at (B O n : Nat) : Addr.add ⟨B, O, none⟩ n = ⟨B, O + n, none⟩ := by
  simp only [Addr.add]; split
  · rename_i h; simp [h]
  · rfl

theorem slice_run2 {t el : TypeId} {inf : TypeInfo} (hu : P.underlying t = some (.slice el)) (hi : P.info? el = some inf) {p : Option Addr} {n c : Nat} {lo hi' : Option Value} {l h : Option Int}
    (hl : (lo = none ∧ l = none) ∨ ∃ k n, lo = some (.int k n) ∧ l = some n) (hh : (hi' = none ∧ h = none) ∨ ∃ k n, hi' = some (.int k n) ∧ h = some n)
    (h1 : 0 ≤ l.getD 0) (h2 : l.getD 0 ≤ h.getD n) (h3 : h.getD n ≤ c) :
    (Instr.sliceAt t (.slice p n c) lo hi' none).run P w = .ok (.slice (if c = (l.getD 0).toNat then p else p.map (·.add ((l.getD 0).toNat * inf.size))) ((h.getD n).toNat - (l.getD 0).toNat) (c - (l.getD 0).toNat)) w := by
  have hb := bounds_run (P := P) (w := w) true n c hl hh h1 h2 h3
  simp only [Instr.sliceAt, Sem.run_bind, run_underlying hu, Result.andThen_ok, Instr.slice]
  simp [hb, run_sizeOf' hi]

theorem slice_run3 {t el : TypeId} {inf : TypeInfo} (hu : P.underlying t = some (.slice el)) (hi : P.info? el = some inf) {p : Option Addr} {n c : Nat} {lo : Option Value} {l : Option Int} {k1 k2 : IntKind} {m : Int}
    (hl : (lo = none ∧ l = none) ∨ ∃ k n, lo = some (.int k n) ∧ l = some n) (hm : m = l.getD 0)
    (h1 : 0 ≤ l.getD 0) (h3 : m ≤ c) :
    (Instr.sliceAt t (.slice p n c) lo (some (.int k1 m)) (some (.int k2 m))).run P w = .ok (.slice p 0 0) w := by
  subst hm
  have hb : (Instr.sliceBounds true n c lo (some (.int k1 (l.getD 0))) (some (.int k2 (l.getD 0)))).run P w = .ok ((l.getD 0).toNat, (l.getD 0).toNat, (l.getD 0).toNat) w := by
    rcases hl with ⟨rfl, rfl⟩ | ⟨k', n', rfl, rfl⟩ <;> simp only [Option.getD_none, Option.getD_some] at *
    · simp only [Instr.sliceBounds, Sem.run_bind, Sem.run_pure, Result.andThen_ok]
      rw [bound_run ⟨by omega, h3⟩]; simp only [Result.andThen_ok]
      rw [bound_run ⟨by omega, by simp⟩]; simp
    · simp only [Instr.sliceBounds, Sem.run_bind, Sem.run_pure, Result.andThen_ok]
      rw [bound_run ⟨by omega, h3⟩]; simp only [Result.andThen_ok]
      rw [bound_run ⟨by omega, by omega⟩]; simp only [Result.andThen_ok]
      rw [bound_run ⟨by omega, by omega⟩]; simp
  simp only [Instr.sliceAt, Sem.run_bind, run_underlying hu, Result.andThen_ok, Instr.slice]
  simp [hb, run_sizeOf' hi]

theorem slicing_sound {t el : TypeId} {inf : TypeInfo} {xv xv' : Value} {lo hi mx : Option Value} {l h m : Option Int} (hu : P.underlying t = some (.slice el)) (hi' : P.info? el = some inf) (hz : inf.size ≠ 0) (hm : Models ρ H Pr h0 w)
    (hl : (lo = none ∧ l = none) ∨ ∃ k n, lo = some (.int k n) ∧ l = some n) (hh : (hi = none ∧ h = none) ∨ ∃ k n, hi = some (.int k n) ∧ h = some n) (hmx : (mx = none ∧ m = none) ∨ ∃ k n, mx = some (.int k n) ∧ m = some n)
    (hq : slicing H inf.size xv l h m = some (C, v)) (hC : C) (hr : VRel ρ xv xv') :
    ∃ v', (Instr.sliceAt t xv' lo hi mx).run P w = .ok v' w ∧ VRel ρ v v' := by
  unfold slicing at hq
  split at hq
  · -- nil
    have : ∃ p, xv' = .slice p 0 0 := by cases hr with | atom h => simp [atom] at h | sliceN => exact ⟨_, rfl⟩
    obtain ⟨p, rfl⟩ := this
    rcases hmx with ⟨rfl, rfl⟩ | ⟨k1, m1, rfl, rfl⟩
    · cases hq
      obtain ⟨h1, h2⟩ := hC
      have h3 : h.getD ((0 : Nat) : Int) = 0 := h2
      refine ⟨_, slice_run2 (w := w) hu hi' hl hh (by omega) (by omega) (by omega), ?_⟩
      rw [h1, h3]
      exact .sliceN
    · cases hq
      obtain ⟨h1, h2, h3⟩ := hC
      rcases hh with ⟨rfl, rfl⟩ | ⟨k2, m2, rfl, rfl⟩
      · cases h2
      · cases h2; subst h1
        exact ⟨_, slice_run3 (w := w) hu hi' hl h3.symm (by omega) (by simp), .sliceN⟩
  · rename_i i off n c
    split at hq
    · rename_i hc; subst hc
      split at hq
      · rename_i sz' cs T hrow
        split at hq
        · rename_i hsz; subst hsz
          obtain ⟨L, hL, hok⟩ := hm.ok i _ hrow
          rcases hmx with ⟨rfl, rfl⟩ | ⟨k1, m1, rfl, rfl⟩
          · simp only at hq
            rcases hl with ⟨rfl, rfl⟩ | ⟨k2, l1, rfl, rfl⟩
            · cases hq
              obtain ⟨h1, h2, h3⟩ := hC
              cases hr with
              | atom h => simp [atom] at h
              | slice _ _ hne _ => exact absurd rfl hne
              | sliceE hL' hab =>
                rw [hL'] at hL; cases hL
                rcases hok with ⟨_, rfl⟩ | ⟨h4, _⟩
                · simp at h3
                · rw [hab] at h4; cases h4
              | sliceH hL' hab hcap =>
                rename_i c' L'
                rw [hL'] at hL; cases hL
                rcases hok with ⟨h4, _⟩ | ⟨_, hb, hs, c2, hheap, hcap2, hrel⟩
                · rw [hab] at h4; cases h4
                · have hle : cs.length ≤ L.cap := by have := hrel.length; rw [List.length_take] at this; rw [hcap2]; simp at this; omega
                  have hcc : ((h.getD n).toNat : Nat) ≤ c' := by
                    rw [hs] at hcap
                    have : (h.getD n).toNat * inf.size ≤ c' * inf.size := by omega
                    exact Nat.le_of_mul_le_mul_right this (by omega)
                  refine ⟨_, slice_run2 (w := w) hu hi' (.inl ⟨rfl, rfl⟩) hh (by simp) (by simpa using h1) (by omega), ?_⟩
                  simp only [Option.getD_none, Int.toNat_zero, Nat.zero_mul, Nat.sub_zero, Option.map_some, add_at, Nat.add_zero, ite_self]
                  exact .sliceH hL' hab hcap
            · simp only at hq
              split at hq
              · rename_i heq; cases hq
                obtain ⟨h1, h2⟩ := hC
                cases hr with
                | atom h => simp [atom] at h
                | slice _ _ hne _ => exact absurd rfl hne
                | sliceE hL' hab =>
                  rw [hL'] at hL; cases hL
                  rcases hok with ⟨_, rfl⟩ | ⟨h4, _⟩
                  · have : l1.toNat = 0 := by
                      rcases Nat.eq_zero_or_pos l1.toNat with h | h
                      · exact h
                      · have := Nat.mul_le_mul h (Nat.pos_of_ne_zero hz); rw [List.length_nil] at h2; omega
                    have hl0 : l1 = 0 := by omega
                    subst hl0
                    refine ⟨_, slice_run2 (w := w) hu hi' (.inr ⟨_, _, rfl, rfl⟩) hh (by simp) (by simpa using Int.le_of_eq heq.symm) (by simp at heq ⊢; omega), ?_⟩
                    simp only [Option.getD_some]
                    rw [heq]
                    exact .sliceX
                  · rw [hab] at h4; cases h4
                | sliceH hL' hab hcap =>
                  rename_i c' L'
                  rw [hL'] at hL; cases hL
                  rcases hok with ⟨h4, _⟩ | ⟨_, hb, hs, c2, hheap, hcap2, hrel⟩
                  · rw [hab] at h4; cases h4
                  · have hle : cs.length ≤ L.cap := by have := hrel.length; rw [List.length_take] at this; rw [hcap2]; simp at this; omega
                    have hcc : l1.toNat ≤ c' := by
                      rw [hs] at hcap
                      have : l1.toNat * inf.size ≤ c' * inf.size := by omega
                      exact Nat.le_of_mul_le_mul_right this (by omega)
                    refine ⟨_, slice_run2 (w := w) hu hi' (.inr ⟨_, _, rfl, rfl⟩) hh (by simpa using h1) (by simpa using Int.le_of_eq heq.symm) (by omega), ?_⟩
                    simp only [Option.getD_some]
                    rw [heq, Nat.sub_self]
                    exact .sliceX
              · rename_i hne; cases hq
                obtain ⟨h1, h2, h3⟩ := hC
                cases hr with
                | atom h => simp [atom] at h
                | slice _ _ hne _ => exact absurd rfl hne
                | sliceE hL' hab =>
                  rw [hL'] at hL; cases hL
                  rcases hok with ⟨_, rfl⟩ | ⟨h4, _⟩
                  · have : (h.getD (0 : Nat)).toNat = 0 := by
                      rcases Nat.eq_zero_or_pos (h.getD (0 : Nat)).toNat with h | h
                      · exact h
                      · have := Nat.mul_le_mul h (Nat.pos_of_ne_zero hz); rw [List.length_nil] at h3; omega
                    omega
                  · rw [hab] at h4; cases h4
                | sliceH hL' hab hcap =>
                  rename_i c' L'
                  rw [hL'] at hL; cases hL
                  rcases hok with ⟨h4, _⟩ | ⟨_, hb, hs, c2, hheap, hcap2, hrel⟩
                  · rw [hab] at h4; cases h4
                  · have hle : cs.length ≤ L.cap := by have := hrel.length; rw [List.length_take] at this; rw [hcap2]; simp at this; omega
                    have hcc : ((h.getD n).toNat : Nat) ≤ c' := by
                      rw [hs] at hcap
                      have : (h.getD n).toNat * inf.size ≤ c' * inf.size := by omega
                      exact Nat.le_of_mul_le_mul_right this (by omega)
                    refine ⟨_, slice_run2 (w := w) hu hi' (.inr ⟨_, _, rfl, rfl⟩) hh (by simpa using h1) (by simpa using Int.le_of_lt h2) (by omega), ?_⟩
                    simp only [Option.getD_some]
                    rw [if_neg (by omega)]
                    simp only [Option.map_some, add_at]
                    rw [show (h.getD n).toNat - l1.toNat = (h.getD n - l1).toNat by omega, Nat.add_assoc]
                    refine .sliceH hL' hab ?_
                    have e2 : l1.toNat * inf.size ≤ c' * inf.size := Nat.mul_le_mul_right _ (by omega)
                    rw [Nat.sub_mul, hs]
                    rw [hs] at hcap
                    omega
          · cases hq
            obtain ⟨h1, h2, h3, h4⟩ := hC
            rcases hh with ⟨rfl, rfl⟩ | ⟨k2, m2, rfl, rfl⟩
            · cases h3
            · cases h3
              cases hr with
              | atom h => simp [atom] at h
              | slice _ _ hne _ => exact absurd rfl hne
              | sliceE hL' hab =>
                rw [hL'] at hL; cases hL
                rcases hok with ⟨_, rfl⟩ | ⟨h5, _⟩
                · have : m1.toNat = 0 := by
                    rcases Nat.eq_zero_or_pos m1.toNat with h | h
                    · exact h
                    · have := Nat.mul_le_mul h (Nat.pos_of_ne_zero hz); rw [List.length_nil] at h4; omega
                  exact ⟨_, slice_run3 (w := w) hu hi' hl h1 (by omega) (by omega), .sliceN⟩
                · rw [hab] at h5; cases h5
              | sliceH hL' hab hcap =>
                rename_i c' L'
                rw [hL'] at hL; cases hL
                rcases hok with ⟨h5, _⟩ | ⟨_, hb, hs, c2, hheap, hcap2, hrel⟩
                · rw [hab] at h5; cases h5
                · have hle : cs.length ≤ L.cap := by have := hrel.length; rw [List.length_take] at this; rw [hcap2]; simp at this; omega
                  have hcc : m1.toNat ≤ c' := by
                    rw [hs] at hcap
                    have : m1.toNat * inf.size ≤ c' * inf.size := by omega
                    exact Nat.le_of_mul_le_mul_right this (by omega)
                  exact ⟨_, slice_run3 (w := w) hu hi' hl h1 (by omega) (by omega), .sliceN⟩
        · cases hq
      · cases hq
    · rename_i hc
      split at hq
      · rename_i hc'; subst hc'
        rcases hmx with ⟨rfl, rfl⟩ | ⟨k1, m1, rfl, rfl⟩
        · cases hq
          obtain ⟨h1, h2, h3⟩ := hC
          cases hr with
          | atom h => simp [atom] at h
          | slice _ _ _ hne => exact absurd rfl hne
          | sliceA hL hab hle =>
            rename_i c' a' L
            refine ⟨_, slice_run2 (w := w) hu hi' hl hh h1 h2 (by omega), ?_⟩
            rw [show (h.getD n).toNat - (l.getD 0).toNat = (h.getD n - l.getD 0).toNat by omega]
            refine .sliceA hL (fun hn => ?_) (by omega)
            obtain ⟨h5, rfl⟩ := hab (by omega)
            refine ⟨h5, ?_⟩
            rw [if_neg (by omega)]
            simp only [Option.map_some, add_at, Nat.add_assoc]
        · cases hq
      rename_i hc'
      cases hr with
      | atom h => simp [atom] at h
      | sliceH => exact absurd rfl hc
      | sliceE => exact absurd rfl hc
      | sliceA => exact absurd rfl hc'
      | slice hL hab hne =>
        rcases hmx with ⟨rfl, rfl⟩ | ⟨k1, m1, rfl, rfl⟩
        · simp only at hq
          split at hq
          · rename_i heq; cases hq
            refine ⟨_, slice_run2 (w := w) hu hi' hl hh (by omega) (by omega) (by omega), ?_⟩
            rw [if_pos (by omega), hC, heq]
            simp only [Int.toNat_natCast, Nat.sub_self]
            exact .sliceN
          · rename_i hne2; cases hq
            obtain ⟨h1, h2, h3, h4⟩ := hC
            refine ⟨_, slice_run2 (w := w) hu hi' hl hh h1 h2 h3, ?_⟩
            rw [if_neg (by omega)]
            simp only [Option.map_some, add_at]
            rw [show (h.getD n).toNat - (l.getD 0).toNat = (h.getD n - l.getD 0).toNat by omega, Nat.add_assoc]
            exact .slice hL hab h4.1 h4.2
        · cases hq
          obtain ⟨h1, h2, h3, h4⟩ := hC
          rcases hh with ⟨rfl, rfl⟩ | ⟨k2, m2, rfl, rfl⟩
          · cases h3
          · cases h3
            exact ⟨_, slice_run3 (w := w) hu hi' hl h1 (by omega) h4, .sliceN⟩
  · cases hq

theorem sl_sound {t el : TypeId} {inf : TypeInfo} {x : Operand} {lo hi mx : Option Operand} (hu : P.underlying t = some (.slice el)) (hi' : P.info? el = some inf) (hz : inf.size ≠ 0) (hm : Models ρ H Pr h0 w)
    (hq : aq (.sl inf.size x lo hi mx) e H = some (C, v)) (hC : C) (he : ERel ρ e a) : Yields' P ρ a w ⟨dst, .slice t x lo hi mx, ty, pos, after, g⟩ v := by
  simp only [aq] at hq
  split at hq
  · rename_i xv l h m hx hl hh hmm
    have conv : ∀ {y : Option Operand} {m : Option Int}, optInt e y = some m → (y.map a.eval = none ∧ m = none) ∨ ∃ k n, y.map a.eval = some (.int k n) ∧ m = some n := by
      intro y m hy
      rcases optInt_rel he hy with ⟨rfl, rfl⟩ | ⟨z, k, n, rfl, rfl, hz⟩
      · exact .inl ⟨rfl, rfl⟩
      · exact .inr ⟨k, n, by simp [hz], rfl⟩
    obtain ⟨v', h1, h2⟩ := slicing_sound hu hi' hz hm (conv hl) (conv hh) (conv hmm) hq hC (he.ev hx)
    exact ⟨v', by simp [execOp, h1], h2⟩
  · cases hq
end
end Go.Abs
