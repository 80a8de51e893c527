import Derived.Test.YthpclmlfmhjadaaDoorKD4
set_option linter.unusedSimpArgs false
namespace Go.Abs
set_option maxRecDepth 10000

/-- A number's bytes behind its first one. -/
def numT (n : Int) : Bs := match wid n with
  | 0 => []
  | 1 => [UInt8.ofNat (n % 256).toNat]
  | 2 => [UInt8.ofNat (n / 256 % 256).toNat, UInt8.ofNat (n % 256).toNat]
  | 3 => [UInt8.ofNat (n / 65536 % 256).toNat, UInt8.ofNat (n / 256 % 256).toNat, UInt8.ofNat (n % 256).toNat]
  | _ => [UInt8.ofNat (n / 16777216 % 256).toNat, UInt8.ofNat (n / 65536 % 256).toNat, UInt8.ofNat (n / 256 % 256).toNat, UInt8.ofNat (n % 256).toNat]

theorem wid_cases (n : Int) : wid n = 0 ∨ wid n = 1 ∨ wid n = 2 ∨ wid n = 3 ∨ wid n = 4 := by
  unfold wid; repeat' split
  all_goals omega
theorem numB_cons (n : Int) : numB n = UInt8.ofNat (wid n) :: numT n := by
  unfold numB numT
  rcases wid_cases n with h | h | h | h | h <;> rw [h] <;> rfl
theorem numT_len (n : Int) : (numT n).length = wid n := by
  unfold numT
  rcases wid_cases n with h | h | h | h | h <;> rw [h] <;> rfl
theorem byte_nat (m : Int) : ((UInt8.ofNat (m % 256).toNat).toNat : Int) = m % 256 := by
  rw [UInt8.toNat_ofNat']; omega
theorem be_numT (n : Int) (h0 : 0 ≤ n) (h1 : n < 4294967296) : be (numT n) = n := by
  unfold numT
  have hw := wid_cases n
  unfold be
  rcases hw with h | h | h | h | h <;> rw [h] <;> simp only [List.foldl_cons, List.foldl_nil, byte_nat] <;> unfold wid at h <;> (repeat' split at h) <;> omega

theorem getN_at (p : Bs) (x : Int) (hx : numOk x) (q : Bs) : getN (p ++ (numB x ++ q)) p.length = .inl (x, p.length + (wid x + 1 : Nat)) := by
  have hw := wid_cases x
  have hl := numT_len x
  rw [numB_cons]
  have hlen : (p ++ (UInt8.ofNat (wid x) :: numT x ++ q)).length = p.length + 1 + wid x + q.length := by simp [hl]; omega
  have hget : (p ++ (UInt8.ofNat (wid x) :: numT x ++ q))[((p.length : Nat) : Int).toNat]? = some (UInt8.ofNat (wid x)) := by simp
  have hdrop : (p ++ (UInt8.ofNat (wid x) :: numT x ++ q)).drop (((p.length : Nat) : Int).toNat + 1) = numT x ++ q := by
    rw [Int.toNat_natCast, List.drop_append]
    simp
  have hb : (UInt8.ofNat (wid x)).toNat = wid x := by rw [UInt8.toNat_ofNat']; omega
  unfold getN
  rw [hlen, if_neg (by omega), if_neg (by omega)]
  simp only [hget, Option.getD_some, hb, hdrop]
  rw [if_neg (by omega), if_neg (by simp [hl])]
  have ht : (numT x ++ q).take (wid x) = numT x := by rw [← hl]; simp
  rw [ht, be_numT x hx.1 (by have := hx.2; omega), if_neg (by have := hx.2; omega)]
  congr 2; omega

theorem getT_at (p s q : Bs) (hs : s.length ≤ 65536) : getT (p ++ (textB s ++ q)) p.length = .ok s (p.length + (textB s).length) := by
  have hx : numOk (s.length : Int) := ⟨by omega, by omega⟩
  have hn := getN_at p s.length hx (s ++ q)
  have e1 : p ++ (textB s ++ q) = p ++ (numB s.length ++ (s ++ q)) := by simp [textB]
  have hlen : (textB s).length = wid s.length + 1 + s.length := by simp [textB, numB_len]
  unfold getT
  rw [e1, hn]
  simp only []
  rw [if_neg (by omega), if_neg (by simp [numB_len]; omega)]
  have e2 : (p.length + (wid s.length + 1 : Nat) : Int).toNat = p.length + (numB s.length).length := by rw [numB_len]; omega
  rw [e2, ← List.append_assoc, ← List.length_append, List.drop_left]
  have e3 : ((s.length : Nat) : Int).toNat = s.length := by omega
  rw [e3, List.take_left, hlen]
  congr 1; omega

/-- The number of an error when a text is cut at its end. -/
theorem getT_cut (p s : Bs) (hs : s.length ≤ 65536) : ∃ x, getTV (getT ((p ++ textB s).take (p.length + (textB s).length - 1)) p.length) = .tuple ⟨[.string (B []), .int .i64 0, .int .i64 101]⟩ ∧ x = 0 := by
  refine ⟨0, ?_, rfl⟩
  have hlen : (textB s).length = wid s.length + 1 + s.length := by simp [textB, numB_len]
  cases s with
  | nil =>
    have e1 : (p ++ textB []).take (p.length + (textB []).length - 1) = p := by
      have : (textB []).length = 1 := rfl
      rw [this]; simp
    rw [e1]
    have hg : getN p p.length = .inr (p.length, 101) := by
      unfold getN; rw [if_neg (by omega), if_pos rfl]
    unfold getT
    rw [hg]; rfl
  | cons b t =>
    have hx : numOk (((b :: t).length : Nat) : Int) := ⟨by omega, by omega⟩
    have e1 : (p ++ textB (b :: t)).take (p.length + (textB (b :: t)).length - 1) = p ++ (numB ((b :: t).length : Nat) ++ (b :: t).take t.length) := by
      have e2 : p.length + (textB (b :: t)).length - 1 = p.length + ((numB ((b :: t).length : Nat)).length + t.length) := by
        rw [hlen, numB_len]; simp; omega
      rw [e2, List.take_length_add_append]
      unfold textB
      rw [List.take_length_add_append]
    rw [e1]
    have hn := getN_at p ((b :: t).length : Nat) hx ((b :: t).take t.length)
    unfold getT
    rw [hn]
    simp only []
    have hl2 : ((b :: t).take t.length).length = t.length := by simp
    rw [if_neg (by omega), if_pos (by simp only [List.length_append, numB_len, hl2]; simp; omega)]
    rfl
end Go.Abs
