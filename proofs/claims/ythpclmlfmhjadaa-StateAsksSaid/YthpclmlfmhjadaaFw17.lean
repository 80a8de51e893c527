/-
  Regions whose order is drawn: the static check; the values of tmps in any order.
-/
import Derived.Test.YthpclmlfmhjadaaFw16
set_option linter.unusedSectionVars false
set_option linter.unusedSimpArgs false
set_option linter.unusedVariables false
namespace Go.Abs
variable [Gl : Globals]

def anOf (an : List (List Nat)) (j : Nat) : List Nat := an.getD j []

def AOper.apart (x y : AOper) : Bool :=
  (match x.dst with | some d => !y.reads.contains d && !(y.dst == some d) | none => true) && (match y.dst with | some d => !x.reads.contains d | none => true)

def planOk (l : List AOper) (an : List (List Nat)) (fl : Option Nat) : List Nat → List Nat → Bool
  | _, [] => true
  | done, i :: rest => decide (i < l.length) && !done.contains i && (anOf an i).all (fun x => done.contains x) &&
      (match l[i]? with | some o => if o.op.sync = true then rest.all (fun z => (anOf an z).contains i || fl == some z) else true | none => false) && planOk l an fl (i :: done) rest

def ancOk (l : List AOper) (af an : List (List Nat)) : Bool :=
  decide (af.length = l.length) && decide (an.length = l.length) &&
  (List.range l.length).all (fun j =>
    (anOf af j).all (fun d => decide (d < j) && (anOf an j).contains d && (anOf an d).all (fun x => (anOf an j).contains x)) &&
    (anOf an j).all (fun i => decide (i < j) && ((anOf af j).contains i || (anOf af j).any fun d => (anOf an d).contains i)))

def apartOk (l : List AOper) (an : List (List Nat)) : Bool :=
  (List.range l.length).all (fun i => (List.range l.length).all fun j => i == j || (anOf an j).contains i || (anOf an i).contains j || (match l[i]?, l[j]? with | some x, some y => x.apart y | _, _ => true))

def flOk (l : List AOper) : Option Nat → Bool
  | none => true
  | some f => match l[f]? with | some ⟨some _, .alloc _ _, none⟩ => true | _ => false

def drawOk (l : List AOper) (af an : List (List Nat)) (fl : Option Nat) (plan : List Nat) : Bool :=
  ancOk l af an && apartOk l an && planOk l an fl [] plan && (List.range l.length).all (fun j => plan.contains j) && flOk l fl

/-! ### Who wrote last -/
def lastw (d : Nat → Option Nat) (S : Nat → Bool) (t : Nat) : Nat → Option Nat
  | 0 => none
  | n + 1 => if S n = true ∧ d n = some t then some n else lastw d S t n

theorem lastw_congr {d : Nat → Option Nat} {S S' : Nat → Bool} {t : Nat} : ∀ {n : Nat}, (∀ i, i < n → d i = some t → S i = S' i) → lastw d S t n = lastw d S' t n
  | 0, _ => rfl
  | n + 1, h => by
    simp only [lastw]
    by_cases hd : d n = some t
    · rw [h n (by omega) hd, lastw_congr fun i hi => h i (by omega)]
    · simp only [hd, and_false, if_false]; exact lastw_congr fun i hi => h i (by omega)

theorem lastw_some {d : Nat → Option Nat} {S : Nat → Bool} {t i : Nat} : ∀ {n : Nat}, lastw d S t n = some i → i < n ∧ S i = true ∧ d i = some t
  | 0, h => by cases h
  | n + 1, h => by
    simp only [lastw] at h
    split at h
    · rename_i hh; cases h; exact ⟨by omega, hh⟩
    · obtain ⟨h1, h2⟩ := lastw_some h; exact ⟨by omega, h2⟩

theorem lastw_self {d : Nat → Option Nat} {S : Nat → Bool} {t j : Nat} : ∀ {n : Nat}, j < n → S j = true → d j = some t → (∀ i, j < i → i < n → d i = some t → S i = false) → lastw d S t n = some j
  | 0, h, _, _, _ => by omega
  | n + 1, h, hS, hd, hn => by
    simp only [lastw]
    by_cases hj : j = n
    · subst hj; rw [if_pos ⟨hS, hd⟩]
    · rw [if_neg]
      · exact lastw_self (by omega) hS hd fun i h1 h2 => hn i h1 (by omega)
      · rintro ⟨h1, h2⟩
        rw [hn n (by omega) (by omega) h2] at h1; cases h1

/-- What a tmp holds when the operations of S have run. -/
def val (l : List AOper) (e0 : Env) (vals : Nat → Value) (S : Nat → Bool) (t : Nat) : Option Value :=
  match lastw (fun j => (l[j]?).bind (·.dst)) S t l.length with
  | some i => some (vals i)
  | none => look e0 t

def add (S : Nat → Bool) (j : Nat) : Nat → Bool := fun i => if i = j then true else S i
def upd (vals : Nat → Value) (j : Nat) (v : Value) : Nat → Value := fun i => if i = j then v else vals i
def inn (l : List Nat) : Nat → Bool := fun i => l.contains i

section
variable {l : List AOper} {an : List (List Nat)} {e0 : Env} {vals vals' : Nat → Value}

theorem val_vals {S : Nat → Bool} {t : Nat} (h : ∀ i, S i = true → vals i = vals' i) : val l e0 vals S t = val l e0 vals' S t := by
  unfold val
  split
  · rename_i i hi; rw [h i (lastw_some hi).2.1]
  · rfl

/-- The order on two operations that touch the same tmp. -/
def Ordered (l : List AOper) (an : List (List Nat)) : Prop :=
  ∀ i j x y, i ≠ j → l[i]? = some x → l[j]? = some y → (i ∈ anOf an j) ∨ (j ∈ anOf an i) ∨ ((∀ d, x.dst = some d → d ∉ y.reads ∧ y.dst ≠ some d) ∧ (∀ d, y.dst = some d → d ∉ x.reads))

theorem apart_ordered (h : apartOk l an = true) : Ordered l an := by
  intro i j x y hij hx hy
  have hi : i < l.length := (List.getElem?_eq_some_iff.1 hx).1
  have hj : j < l.length := (List.getElem?_eq_some_iff.1 hy).1
  simp only [apartOk, List.all_eq_true, List.mem_range] at h
  have h1 := h i hi j hj
  simp only [hx, hy, Bool.or_eq_true, beq_iff_eq, List.contains_iff_mem, hij, false_or] at h1
  rcases h1 with (h1 | h1) | h1
  · exact .inl h1
  · exact .inr (.inl h1)
  · refine .inr (.inr ⟨fun d hd => ?_, fun d hd => ?_⟩)
    · simp only [AOper.apart, hd, Bool.and_eq_true, Bool.not_eq_true', beq_eq_false_iff_ne] at h1
      refine ⟨fun hm => ?_, h1.1.2⟩
      have := h1.1.1
      simp [hm] at this
    · simp only [AOper.apart, hd, Bool.and_eq_true, Bool.not_eq_true'] at h1
      intro hm
      have := h1.2
      simp [hm] at this

def Closed (an : List (List Nat)) (S : Nat → Bool) : Prop := ∀ j, S j = true → ∀ d ∈ anOf an j, S d = true

theorem val_anc (ho : Ordered l an) {S : Nat → Bool} (hc : Closed an S) {j : Nat} {y : AOper} (hy : l[j]? = some y) (hj : S j = false) (ha : ∀ d ∈ anOf an j, S d = true) (hirr : j ∉ anOf an j)
    {t : Nat} (ht : t ∈ y.reads) : val l e0 vals S t = val l e0 vals (inn (anOf an j)) t := by
  unfold val
  rw [lastw_congr (S' := inn (anOf an j))]
  intro i hi hd
  cases hx : l[i]? with
  | none => simp [hx] at hd
  | some x =>
    simp [hx] at hd
    by_cases hij : i = j
    · subst hij; rw [hj]; simp [inn, hirr]
    · rcases ho i j x y hij hx hy with h | h | ⟨h, _⟩
      · rw [ha i h]; simp [inn, h]
      · have hni : S i = false := by
          cases hS : S i with
          | false => rfl
          | true => rw [hc i hS j h] at hj; cases hj
        rw [hni]
        simp only [inn]
        cases hcn : (anOf an j).contains i with
        | false => rfl
        | true => rw [ha i (by simpa using hcn)] at hni; cases hni
      · exact absurd ht (h t hd).1

theorem val_add (ho : Ordered l an) {S : Nat → Bool} (hc : Closed an S) (hlt : ∀ j i, i ∈ anOf an j → i < j) {j : Nat} {y : AOper} (hy : l[j]? = some y) (hj : S j = false) (v : Value) (t : Nat) :
    val l e0 (upd vals j v) (add S j) t = if y.dst = some t then some v else val l e0 vals S t := by
  have hjl : j < l.length := (List.getElem?_eq_some_iff.1 hy).1
  by_cases hd : y.dst = some t
  · rw [if_pos hd]
    unfold val
    rw [lastw_self (j := j) hjl (by simp [add]) (by simp [hy, hd])]
    · simp [upd]
    · intro i hji hi hdi
      cases hx : l[i]? with
      | none => simp [hx] at hdi
      | some x =>
        simp [hx] at hdi
        simp only [add, if_neg (Nat.ne_of_gt hji)]
        cases hS : S i with
        | false => rfl
        | true =>
          rcases ho i j x y (Nat.ne_of_gt hji) hx hy with h | h | ⟨h, _⟩
          · have := hlt j i h; omega
          · rw [hc i hS j h] at hj; cases hj
          · exact absurd hd (h t hdi).2
  · rw [if_neg hd]
    have h1 : val l e0 (upd vals j v) (add S j) t = val l e0 (upd vals j v) S t := by
      unfold val
      rw [lastw_congr (S' := S)]
      intro i hi hdi
      by_cases hij : i = j
      · subst hij; simp [hy] at hdi; exact absurd hdi hd
      · simp [add, hij]
    rw [h1]
    exact val_vals fun i hi => by
      have : i ≠ j := fun h => by subst h; rw [hj] at hi; cases hi
      simp [upd, this]
end
end Go.Abs
