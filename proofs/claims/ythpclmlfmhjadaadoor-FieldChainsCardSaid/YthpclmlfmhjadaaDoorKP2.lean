import Derived.Test.YthpclmlfmhjadaaDoorKP1
import Derived.Test.YthpclmlfmhjadaaDoorKD5
import Derived.Test.YthpclmlfmhjadaaDoorFw29
set_option linter.unusedSimpArgs false
namespace Go.Abs
set_option maxRecDepth 10000

theorem mask_eq' (x : Int) (k m : Nat) (hm : m = 2 ^ k - 1) (hk : k ≤ 30) : ∃ r : Nat, r ≤ m ∧ iand .i64 x (m : Int) = (r : Int) := by
  have h2 : (2 : Nat) ^ k ≤ 1073741824 := by
    have := Nat.pow_le_pow_right (n := 2) (by omega) hk
    omega
  have hp : 0 < (2 : Nat) ^ k := Nat.pow_pos (by omega)
  have hlt := Nat.mod_lt (BitVec.ofInt 64 x).toNat hp
  refine ⟨(BitVec.ofInt 64 x).toNat % 2 ^ k, by omega, ?_⟩
  unfold iand wrapB
  have h1 : BitVec.ofInt IntKind.i64.bits (m : Int) = BitVec.ofNat 64 (2 ^ k - 1) := by rw [hm]; rfl
  rw [h1]
  show IntKind.i64.wrap (((BitVec.ofInt 64 x &&& BitVec.ofNat 64 (2 ^ k - 1)).toNat : Nat) : Int) = _
  have h3 : (BitVec.ofInt 64 x &&& BitVec.ofNat 64 (2 ^ k - 1)).toNat = (BitVec.ofInt 64 x).toNat % 2 ^ k := by
    rw [BitVec.toNat_and, BitVec.toNat_ofNat, Nat.mod_eq_of_lt (by omega), Nat.and_two_pow_sub_one_eq_mod]
  rw [h3]
  exact wrap64 (by omega) (by omega)

theorem mask_max (x : Int) : ∃ r : Nat, r ≤ 1073741823 ∧ iand .i64 x 1073741823 = (r : Int) := by
  obtain ⟨m, hm⟩ : ∃ m : Nat, m = 1073741823 := ⟨_, rfl⟩
  have e : (m : Int) = 1073741823 := by omega
  obtain ⟨r, hr, h⟩ := mask_eq' x 30 m (by omega) (Nat.le_refl _)
  exact ⟨r, by omega, by rw [← e]; exact h⟩

/-- A number that may be, of any one. -/
def lowNum (x : Int) : Int := iand .i64 x 1073741823

/-- One number and one text. -/
def link (x : Int) (s : Bs) : Bs := numB (lowNum x) ++ textB s
/-- The bytes of a row of numbers and texts. -/
def chain (xs : List Int) (ss : List Bs) : Bs := (List.zipWith link xs ss).flatten

theorem chain_snoc (xs : List Int) (ss : List Bs) (i : Nat) (x : Int) (s : Bs) (h : xs[i]? = some x) (h' : ss[i]? = some s) : chain (xs.take (i + 1)) (ss.take (i + 1)) = chain (xs.take i) (ss.take i) ++ link x s := by
  unfold chain
  rw [← List.take_zipWith, ← List.take_zipWith, List.take_add_one, List.getElem?_zipWith, h, h']
  simp

theorem chain_split (xs : List Int) (ss : List Bs) (i : Nat) (x : Int) (s : Bs) (h : xs[i]? = some x) (h' : ss[i]? = some s) : chain xs ss = chain (xs.take i) (ss.take i) ++ (link x s ++ chain (xs.drop (i + 1)) (ss.drop (i + 1))) := by
  rw [← List.append_assoc, ← chain_snoc xs ss i x s h h']
  unfold chain
  rw [← List.take_zipWith, ← List.drop_zipWith, ← List.flatten_append, List.take_append_drop]

theorem link_len (x : Int) (s : Bs) (h : s.length ≤ 100) : (link x s).length ≤ 120 := by
  have h2 := wid_cases (lowNum x)
  have h3 := wid_cases (s.length : Int)
  simp only [link, textB, List.length_append, numB_len]
  omega
theorem flat_len : ∀ (l : List Bs), (∀ s ∈ l, s.length ≤ 120) → l.flatten.length ≤ 120 * l.length
  | [], _ => by simp
  | s :: l, h => by
    have h1 := h s (by simp)
    have h2 := flat_len l fun t ht => h t (by simp [ht])
    simp only [List.flatten_cons, List.length_append, List.length_cons]
    omega
theorem chain_len (xs : List Int) (ss : List Bs) (h : xs.length ≤ 8) (hs : ∀ s ∈ ss, s.length ≤ 100) : (chain xs ss).length ≤ 960 := by
  have h1 := flat_len (List.zipWith link xs ss) fun t ht => by
    obtain ⟨i, hi⟩ := List.getElem?_of_mem ht
    rw [List.getElem?_zipWith] at hi
    cases hx : xs[i]? with
    | none => simp [hx] at hi
    | some x =>
      cases hy : ss[i]? with
      | none => simp [hx, hy] at hi
      | some s =>
        simp [hx, hy] at hi
        subst hi
        exact link_len x s (hs s (List.mem_of_getElem? hy))
  rw [List.length_zipWith] at h1
  unfold chain
  omega
end Go.Abs
