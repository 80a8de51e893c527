/-
  Closed calls by computation: the conditions of the operations as a computation, and when they are met.
-/
import Derived.Test.YthpclmlfmhjadaaFw26
import Derived.LoopN
set_option linter.unusedSectionVars false
set_option linter.unusedSimpArgs false
set_option linter.unusedVariables false
namespace Go.Abs
variable [Gl : Globals]

def il (a b : Int) : Bool := decide (a ≤ b)
theorem il_iff {a b : Int} : il a b = true ↔ a ≤ b := by simp [il]
def nl (a b : Nat) : Bool := Nat.ble a b
theorem nl_iff {a b : Nat} : nl a b = true ↔ a ≤ b := by simp [nl]

def scB (H : AHeap) (sz : Nat) : Value → Bool
  | .slice (some ⟨i, off, none⟩) n _ => match cellsOf H i with
    | some c => nl (off + n * sz) c.length
    | none => false
  | .slice none 0 _ => true
  | _ => false
theorem scB_ok {H : AHeap} {sz : Nat} {v : Value} {C : Prop} {l : List Value} (h : scB H sz v = true) (hs : sliceCells H sz v = some (C, l)) : C := by
  unfold sliceCells at hs
  split at hs
  · split at hs
    · rename_i hc; cases hs
      simp only [scB, hc, nl_iff] at h; exact h
    · cases hs
  · cases hs; trivial
  · cases hs

def slB (H : AHeap) (sz : Nat) (v : Value) (lo hi mx : Option Int) : Bool :=
  match v with
  | .slice none 0 0 => match mx with
    | none => decide (lo.getD 0 = 0) && decide (hi.getD 0 = 0)
    | some m => decide (m = 0 ∧ hi = some 0 ∧ lo.getD 0 = 0)
  | .slice (some ⟨i, off, none⟩) n c =>
    if c = HID then
      match H[i]? with
      | some (.row sz' cs _) => if sz' = sz then
          (match mx with
          | none => (match lo with
            | none => il 0 (hi.getD n) && nl (off + (hi.getD n).toNat * sz) cs.length && nl 1 cs.length
            | some l => if hi.getD n = l then il 0 l && nl (off + l.toNat * sz) cs.length
              else il 0 l && il (l + 1) (hi.getD n) && nl (off + (hi.getD n).toNat * sz) cs.length)
          | some m => decide (m = lo.getD 0) && il 0 m && decide (hi = some m) && nl (off + m.toNat * sz) cs.length)
        else false
      | _ => false
    else if c = ANY then
      match mx with
      | none => il 0 (lo.getD 0) && il (lo.getD 0) (hi.getD n) && il (hi.getD n) n
      | some _ => false
    else
      match mx with
      | none => if lo.getD 0 = (c : Int) then decide (hi.getD n = (c : Int))
        else il 0 (lo.getD 0) && il (lo.getD 0) (hi.getD n) && il (hi.getD n) c && !(c - (lo.getD 0).toNat == HID) && !(c - (lo.getD 0).toNat == ANY)
      | some m => decide (m = lo.getD 0) && il 0 m && decide (hi = some m) && il m c
  | _ => false
theorem slB_ok {H : AHeap} {sz : Nat} {v u : Value} {lo hi mx : Option Int} {C : Prop} (h : slB H sz v lo hi mx = true) (hs : slicing H sz v lo hi mx = some (C, u)) : C := by
  unfold slicing at hs
  unfold slB at h
  split at hs
  · simp only [] at h
    split at hs <;> cases hs <;> simpa using h
  · simp only [] at h
    split at hs
    · rename_i hc; rw [if_pos hc] at h
      split at hs
      · rename_i hH; simp only [hH] at h
        split at hs
        · rename_i hz; rw [if_pos hz] at h
          split at hs
          · split at hs
            · cases hs
              simp only [Bool.and_eq_true, il_iff, nl_iff] at h
              exact ⟨h.1.1, h.1.2, h.2⟩
            · simp only [] at h
              split at hs
              · rename_i hl; rw [if_pos hl] at h; cases hs
                simp only [Bool.and_eq_true, il_iff, nl_iff] at h; exact h
              · rename_i hl; rw [if_neg hl] at h; cases hs
                simp only [Bool.and_eq_true, il_iff, nl_iff] at h
                exact ⟨h.1.1, by omega, h.2⟩
          · cases hs
            simp only [Bool.and_eq_true, il_iff, nl_iff, decide_eq_true_eq] at h
            exact ⟨h.1.1.1, h.1.1.2, h.1.2, h.2⟩
        · cases hs
      · cases hs
    · rename_i hc; rw [if_neg hc] at h
      split at hs
      · rename_i hc; rw [if_pos hc] at h
        split at hs
        · cases hs
          simp only [Bool.and_eq_true, il_iff, nl_iff] at h
          exact ⟨h.1.1, h.1.2, h.2⟩
        · cases hs
      · rename_i hc; rw [if_neg hc] at h
        split at hs
        · simp only [] at h
          split at hs
          · rename_i hl; rw [if_pos hl] at h; cases hs
            simpa using h
          · rename_i hl; rw [if_neg hl] at h; cases hs
            simp only [Bool.and_eq_true, il_iff, nl_iff, Bool.not_eq_true', beq_eq_false_iff_ne] at h
            exact ⟨h.1.1.1.1, h.1.1.1.2, h.1.1.2, h.1.2, h.2⟩
        · cases hs
          simp only [Bool.and_eq_true, il_iff, nl_iff, decide_eq_true_eq] at h
          exact ⟨h.1.1.1, h.1.1.2, h.1.2, h.2⟩
  · cases hs

/-- Is the condition of an operation met? -/
def chkq (o : AOp) (e : Env) (H : AHeap) : Bool :=
  match o with
  | .bin op _ y => match ev e y with
    | some (.int _ b) => (match op with | .quo | .rem => !decide (b = 0) | .shl | .shr => il 0 b | _ => true)
    | _ => false
  | .binS op x y => match op with
    | .add => (match ev e x, ev e y with | some (.string a), some (.string b) => nl (a.size + b.size) 9223372036854775807 | _, _ => false)
    | _ => true
  | .b2s x => match ev e x with | some v => scB H 1 v | none => false
  | .ia _ x i => match ev e x, ev e i with
    | some (.slice (some ⟨_, _, none⟩) n _), some (.int _ k) => il 0 k && il (k + 1) n
    | _, _ => false
  | .iaA len _ _ i => match ev e i with
    | some (.int _ k) => il 0 k && il (k + 1) len
    | _ => false
  | .ix x i => match ev e x, ev e i with
    | some (.string s), some (.int _ k) => il 0 k && il (k + 1) s.size
    | _, _ => false
  | .sl sz x lo hi mx => match ev e x, optInt e lo, optInt e hi, optInt e mx with
    | some v, some l, some h, some m => slB H sz v l h m
    | _, _, _, _ => false
  | .slS x lo hi => match ev e x, optInt e lo, optInt e hi with
    | some (.string s), some l, some h => il 0 (l.getD 0) && il (l.getD 0) (h.getD s.size) && il (h.getD s.size) s.size
    | _, _, _ => false
  | .load agg n x => if agg = true then (match ev e x with
    | some (.pointer (some ⟨i, off, none⟩)) => (match cellsOf H i with
      | some c => nl (off + n) c.length
      | none => false)
    | _ => false) else true
  | _ => true

theorem chkq_ok {o : AOp} {e : Env} {H : AHeap} {C : Prop} {v : Value} (h : chkq o e H = true) (hq : aq o e H = some (C, v)) : C := by
  cases o <;> simp only [aq] at hq <;> simp only [chkq] at h
  case bin op x y =>
    split at hq
    · rename_i hx hy
      split at hq
      · simp only [hy] at h
        cases op <;> simp only [ibin] at hq <;> cases hq <;> first | trivial | (simpa [il_iff] using h)
      · cases hq
    · cases hq
  case binS op x y =>
    split at hq
    · rename_i hx hy
      simp only [hx, hy] at h
      cases op <;> simp only [sbin] at hq <;> cases hq <;> first | trivial | (simpa [nl_iff] using h)
    · cases hq
  case b2s x =>
    split at hq
    · rename_i hx
      simp only [hx] at h
      split at hq
      · rename_i hs
        split at hq
        · cases hq; exact scB_ok h hs
        · cases hq
      · cases hq
    · cases hq
  case ia sz x i =>
    split at hq
    · rename_i hx hi; cases hq
      simp only [hx, hi, Bool.and_eq_true, il_iff] at h
      exact ⟨h.1, by omega⟩
    · cases hq
  case iaA len sz x i =>
    split at hq
    · rename_i hx hi; cases hq
      simp only [hi, Bool.and_eq_true, il_iff] at h
      exact ⟨h.1, by omega⟩
    · cases hq
  case ix x i =>
    split at hq
    · rename_i hx hi; cases hq
      simp only [hx, hi, Bool.and_eq_true, il_iff] at h
      exact ⟨h.1, by omega⟩
    · cases hq
  case sl sz x lo hi mx =>
    split at hq
    · rename_i hx h1 h2 h3
      simp only [hx, h1, h2, h3] at h
      exact slB_ok h hq
    · cases hq
  case slS x lo hi =>
    split at hq
    · rename_i hx h1 h2; cases hq
      simp only [hx, h1, h2, Bool.and_eq_true, il_iff] at h
      exact ⟨h.1.1, h.1.2, h.2⟩
    · cases hq
  case load agg n x =>
    split at hq
    · rename_i hx
      split at hq
      · rename_i hc
        split at hq
        · rename_i ha; cases hq
          simp only [ha, if_true, hx, hc, nl_iff] at h
          exact h
        · split at hq
          · cases hq; trivial
          · cases hq
      · cases hq
    · cases hq
  all_goals (repeat' split at hq)
  all_goals (cases hq; try trivial)

def srcC (H : AHeap) (sz : Nat) : Value → Option (Nat × List Value)
  | .slice a m c => match sliceCells H sz (.slice a m c) with | some (_, l) => some (m, l) | none => none
  | _ => none

def chke (o : AOp) (e : Env) (H : AHeap) : Bool :=
  match o with
  | .store n x y => match ev e x, ev e y with
    | some (.pointer (some ⟨i, off, none⟩)), some v => (match cellsOf H i with
      | some c => Nat.beq v.cells.size n && nl (off + n) c.length && v.cells.toList.all oneCell
      | none => false)
    | _, _ => false
  | .app inpl sz bytes T x y => match ev e x, ev e y with
    | some xv, some yv => scB H sz yv && (match srcC H sz yv with
      | none => false
      | some (m, ys) => match xv with
        | .slice none 0 0 => nl (m * bytes) 70368744177664 && nl m 70368744177664
        | .slice (some ⟨i, off, none⟩) n c => (match H[i]? with
          | some (.row sz' cs T') =>
            if inpl = true then
              Nat.beq c HID && Nat.beq sz sz' && Nat.beq T T' && Nat.beq off 0 && nl 1 cs.length && nl ((n + m) * sz) cs.length && ys.all oneCell
            else
              Nat.beq c HID && Nat.beq sz sz' && Nat.beq T T' && Nat.beq off 0 && Nat.beq (n * sz) cs.length && nl ((n + m) * bytes) 70368744177664 && nl (n + m) 70368744177664 && ys.all oneCell
          | some (.blk cs T') =>
            !inpl && Nat.beq c n && Nat.beq T T' && Nat.beq off 0 && Nat.beq (n * sz) cs.length && nl ((n + m) * bytes) 70368744177664 && nl (n + m) 70368744177664
          | _ => false)
        | _ => false)
    | _, _ => false
  | .mkS bytes _ _ l c => match ev e l, ev e c with
    | some (.int .i64 n), some (.int .i64 m) => decide (n = m) && il 0 n && il (n * bytes) 70368744177664 && il n 70368744177664
    | _, _ => false
  | .mkSN bytes _ _ l c => match ev e l, ev e c with
    | some (.int .i64 n), some (.int .i64 m) => decide (n = m) && il 0 n && il (n * bytes) 70368744177664 && il n 70368744177664
    | _, _ => false
  | .copy sz x y => match ev e x, ev e y with
    | some (.slice (some ⟨i, off, none⟩) n _), some (.slice a m c') => scB H sz (.slice a m c') && nl 1 n && (match cellsOf H i, sliceCells H sz (.slice a m c') with
      | some c, some (_, ys) => nl (off + n * sz) c.length && ys.all oneCell
      | _, _ => false)
    | _, _ => false
  | .clear sz z x => match ev e x with
    | some (.slice none 0 _) => true
    | some (.slice (some ⟨i, off, none⟩) n _) => nl 1 n && Nat.beq z.length sz && (zeroL z n).all oneCell && (match cellsOf H i with
      | some c => nl (off + n * sz) c.length
      | none => false)
    | _ => false
  | .entryStore m s _ => match ev e m, ev e s with
    | some (.map (some i)), some (.int _ n) => (match H[i]? with
      | some (.map es) => il 0 n && il (n + 1) es.length
      | _ => false)
    | _, _ => false
  | _ => true

theorem chke_ok {o : AOp} {e : Env} {H H' : AHeap} {C : Prop} {v : Value} (h : chke o e H = true) (hq : aeff o e H = some (C, v, H')) : C := by
  cases o <;> simp only [aeff] at hq <;> simp only [chke] at h
  case store n x y =>
    split at hq
    · rename_i i off v hx hy
      split at hq
      · rename_i o ho
        split at hq
        · split at hq
          · rename_i c hc; cases hq
            have hco : cellsOf H i = some c := by unfold cellsOf; rw [ho]; exact hc
            simp only [hx, hy, hco, Bool.and_eq_true, nl_iff, Nat.beq_eq] at h
            exact ⟨h.1.1, h.1.2, h.2⟩
          · cases hq
        · cases hq
      · cases hq
    · cases hq
  case app inpl sz bytes T x y =>
    split at hq
    · rename_i xv yv hx hy
      simp only [hx, hy, Bool.and_eq_true] at h
      split at hq
      · cases hq
      · rename_i cy m ys hm
        have hcy : cy ∧ srcC H sz yv = some (m, ys) := by
          cases yv <;> simp only [] at hm <;> first | (cases hm; done) | skip
          rename_i a0 m0 c0
          cases hs : sliceCells H sz (.slice a0 m0 c0) with
          | none => simp [hs] at hm
          | some p =>
            obtain ⟨c1, l1⟩ := p
            simp only [hs, Option.some.injEq, Prod.mk.injEq] at hm
            obtain ⟨rfl, rfl, rfl⟩ := hm
            refine ⟨scB_ok h.1 hs, ?_⟩
            simp only [srcC, hs]
        have h2 := h.2
        rw [hcy.2] at h2
        split at hq
        · cases hq
          simp only [Bool.and_eq_true, nl_iff] at h2
          exact ⟨hcy.1, h2.1, h2.2⟩
        · split at hq
          · rename_i ho; simp only [ho] at h2
            split at hq
            · rename_i hi; cases hq
              rw [if_pos hi] at h2
              simp only [Bool.and_eq_true, nl_iff, Nat.beq_eq] at h2
              obtain ⟨⟨⟨⟨⟨⟨a1, a2⟩, a3⟩, a4⟩, a5⟩, a6⟩, a7⟩ := h2
              exact ⟨hcy.1, a1, a2, a3, a4, a5, a6, a7⟩
            · rename_i hi; cases hq
              rw [if_neg hi] at h2
              simp only [Bool.and_eq_true, nl_iff, Nat.beq_eq] at h2
              obtain ⟨⟨⟨⟨⟨⟨⟨a1, a2⟩, a3⟩, a4⟩, a5⟩, a6⟩, a7⟩, a8⟩ := h2
              exact ⟨hcy.1, a1, a2, a3, a4, a5, a6, a7, a8⟩
          · rename_i ho; simp only [ho] at h2
            simp only [Bool.and_eq_true, nl_iff, Nat.beq_eq, Bool.not_eq_true'] at h2
            obtain ⟨⟨⟨⟨⟨⟨a1, a2⟩, a3⟩, a4⟩, a5⟩, a6⟩, a7⟩ := h2
            split at hq
            · cases hq; exact ⟨hcy.1, a1, a2, a3, a4, a5, by omega⟩
            · cases hq; exact ⟨hcy.1, a1, a2, a3, a4, a5, a6, a7⟩
          · cases hq
        · cases hq
    · cases hq
  case mkS bytes z T l c =>
    split at hq
    · rename_i hl hc; cases hq
      simp only [hl, hc, Bool.and_eq_true, il_iff, decide_eq_true_eq] at h
      exact ⟨h.1.1.1, h.1.1.2, h.1.2, h.2⟩
    · cases hq
  case mkSN bytes z T l c =>
    split at hq
    · rename_i hl hc; cases hq
      simp only [hl, hc, Bool.and_eq_true, il_iff, decide_eq_true_eq] at h
      exact ⟨h.1.1.1, h.1.1.2, h.1.2, h.2⟩
    · cases hq
  case copy sz x y =>
    split at hq
    · rename_i i off n k a m c' hx hy
      simp only [hx, hy, Bool.and_eq_true, nl_iff] at h
      split at hq
      · rename_i cy ys hs
        split at hq
        · rename_i o ho
          split at hq
          · split at hq
            · rename_i c hc; cases hq
              have hco : cellsOf H i = some c := by unfold cellsOf; rw [ho]; exact hc
              rw [hco, hs] at h
              simp only [Bool.and_eq_true, nl_iff] at h
              exact ⟨scB_ok h.1.1 hs, h.1.2, h.2.1, h.2.2⟩
            · cases hq
          · cases hq
        · cases hq
      · cases hq
    · cases hq
  case clear sz z x =>
    split at hq
    · cases hq; trivial
    · rename_i i off n k hx
      simp only [hx] at h
      split at hq
      · rename_i o ho
        split at hq
        · split at hq
          · rename_i c hc; cases hq
            have hco : cellsOf H i = some c := by unfold cellsOf; rw [ho]; exact hc
            rw [hco] at h
            simp only [Bool.and_eq_true, nl_iff, Nat.beq_eq] at h
            exact ⟨h.1.1.1, h.2, h.1.1.2, h.1.2⟩
          · cases hq
        · cases hq
      · cases hq
    · cases hq
  case entryStore m s x =>
    split at hq
    · rename_i hx hy hv
      split at hq
      · rename_i ho; cases hq
        simp only [hx, hy, ho, Bool.and_eq_true, il_iff] at h
        exact ⟨h.1, by omega⟩
      · cases hq
    · cases hq
  all_goals (repeat' split at hq)
  all_goals (cases hq; try trivial)

/-- Equality of values, as a computation. -/
def veqL (q : Value → Value → Bool) : List Value → List Value → Bool
  | [], [] => true
  | a :: l, b :: m => q a b && veqL q l m
  | _, _ => false
theorem veqL_ok {q : Value → Value → Bool} (hq : ∀ a b, q a b = true → a = b) : ∀ {l m : List Value}, veqL q l m = true → l = m
  | [], [], _ => rfl
  | [], _ :: _, h => by cases h
  | _ :: _, [], h => by cases h
  | a :: l, b :: m, h => by
    simp only [veqL, Bool.and_eq_true] at h
    rw [hq a b h.1, veqL_ok hq h.2]

def veq : Nat → Value → Value → Bool
  | 0, _, _ => false
  | n + 1, a, b => match a, b with
    | .bool a, .bool b => a == b
    | .int k a, .int j b => decide (k = j) && decide (a = b)
    | .string a, .string b => decide (a.data.toList = b.data.toList)
    | .pointer none, .pointer none => true
    | .pointer (some ⟨i, o, none⟩), .pointer (some ⟨j, p, none⟩) => Nat.beq i j && Nat.beq o p
    | .slice none m c, .slice none m' c' => Nat.beq m m' && Nat.beq c c'
    | .slice (some ⟨i, o, none⟩) m c, .slice (some ⟨j, p, none⟩) m' c' => Nat.beq i j && Nat.beq o p && Nat.beq m m' && Nat.beq c c'
    | .map (some i), .map (some j) => Nat.beq i j
    | .nilIface, .nilIface => true
    | .nilFunc, .nilFunc => true
    | .iface t u, .iface s v => Nat.beq t s && veq n u v
    | .agg ⟨a⟩, .agg ⟨b⟩ => veqL (veq n) a b
    | .tuple ⟨a⟩, .tuple ⟨b⟩ => veqL (veq n) a b
    | _, _ => false
theorem veq_ok : ∀ (n : Nat) (a b : Value), veq n a b = true → a = b
  | 0, _, _, h => by cases h
  | n + 1, a, b, h => by
    have ih := veq_ok n
    unfold veq at h
    split at h
    · simpa using h
    · simp only [Bool.and_eq_true, decide_eq_true_eq] at h; rw [h.1, h.2]
    · rename_i a b
      have : a = b := by
        cases a; cases b
        simp only [decide_eq_true_eq] at h
        have := Array.toList_inj.1 h
        rw [this]
      rw [this]
    · rfl
    · simp only [Bool.and_eq_true, Nat.beq_eq] at h; rw [h.1, h.2]
    · simp only [Bool.and_eq_true, Nat.beq_eq] at h; rw [h.1, h.2]
    · simp only [Bool.and_eq_true, Nat.beq_eq] at h; rw [h.1.1.1, h.1.1.2, h.1.2, h.2]
    · simp only [Nat.beq_eq] at h; rw [h]
    · rfl
    · rfl
    · simp only [Bool.and_eq_true, Nat.beq_eq] at h; rw [h.1, ih _ _ h.2]
    · rw [veqL_ok ih h]
    · rw [veqL_ok ih h]
    · cases h

def recheckB : Rs → List Nat → AHeap → Bool
  | [], _, _ => true
  | (i, o, e, v) :: r, an, H => (if an.contains i = true then true else chkq o e H && (match aq o e H with | some (_, u) => veq 50 u v | none => false)) && recheckB r an H
theorem recheckB_ok : ∀ {rs : Rs} {an : List Nat} {H : AHeap}, recheckB rs an H = true → recheck rs an H
  | [], _, _, _ => trivial
  | (i, o, e, v) :: r, an, H, h => by
    rw [recheckB, Bool.and_eq_true] at h
    refine ⟨?_, recheckB_ok h.2⟩
    have h1 := h.1
    split
    · trivial
    · rename_i hc
      rw [if_neg hc, Bool.and_eq_true] at h1
      cases hq : aq o e H with
      | none => simp [hq] at h1
      | some p =>
        obtain ⟨C, u⟩ := p
        rw [hq] at h1
        exact ⟨chkq_ok h1.1 hq, veq_ok _ _ _ h1.2⟩
end Go.Abs
