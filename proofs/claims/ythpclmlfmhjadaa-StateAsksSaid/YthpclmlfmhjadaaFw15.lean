/-
  The abstract machine: it runs a function's code up to the next call, loop or drawn region.
-/
import Derived.Test.YthpclmlfmhjadaaFw14
set_option linter.unusedSectionVars false
set_option linter.unusedSimpArgs false
set_option linter.unusedVariables false
namespace Go.Abs
variable [Gl : Globals]

inductive Out where
  | done (C : Prop) (x : Exit) (e : Env) (H : AHeap)
  | call (C : Prop) (f : FuncId) (vs : List Value) (dst : Option Nat) (l : List AOper) (s : List Item) (e : Env) (H : AHeap)
  | loop (C : Prop) (b : ACode) (s : List Item) (e : Env) (H : AHeap)
  | draw (C : Prop) (l : List AOper) (af : List (List Nat)) (s : List Item) (e : Env) (H : AHeap)
  | fail

/-- Where an exit goes. -/
def exitS (id : Nat) : List Item → Option (List Item)
  | [] => none
  | .blk id' :: s => if id = id' then some s else exitS id s
  | _ :: s => exitS id s

def toB : Option Value → Option Bool
  | some (.bool t) => some t
  | _ => none

abbrev Ex := Env → AHeap → Prop → List Item → Out
def sgo (ex : Ex) (r : Option (Prop × Value × AHeap)) (dst : Option Nat) (e : Env) (C : Prop) (s : List Item) : Out := match r with
  | some r => ex (bind dst r.2.1 e) r.2.2 (C ∧ r.1) s
  | none => .fail
def cgo (ex : Ex) (b : Option Bool) (e : Env) (H : AHeap) (C : Prop) (s1 s2 : List Item) : Out := match b with
  | some true => ex e H C s1
  | some false => ex e H C s2
  | none => .fail
def pgo (ex : Ex) (p : Option (FuncId × List Value)) (o : AOper) (l : List AOper) (s : List Item) (e : Env) (H : AHeap) (C : Prop) : Out := match p with
  | some p => .call C p.1 p.2 o.dst l s e H
  | none => sgo ex (step1 o.op e H) o.dst e C (.ops l :: s)
def wgo (ex : Ex) (w : Option Bool) (o : AOper) (l : List AOper) (s : List Item) (e : Env) (H : AHeap) (C : Prop) : Out := match w with
  | some true => pgo ex (callee o.op e) o l s e H C
  | some false => ex (bind o.dst (.tuple #[]) e) H C (.ops l :: s)
  | none => .fail
def xgo (ex : Ex) (t : Option (List Item)) (id : Nat) (e : Env) (H : AHeap) (C : Prop) : Out := match t with
  | some s => ex e H C s
  | none => .done C (.exit id) e H

section
variable {ex : Ex} {r : Prop × Value × AHeap} {dst : Option Nat} {e : Env} {H : AHeap} {C : Prop} {s s1 s2 : List Item} {o : AOper} {l : List AOper} {p : FuncId × List Value} {id : Nat}
theorem sgo_some : sgo ex (some r) dst e C s = ex (bind dst r.2.1 e) r.2.2 (C ∧ r.1) s := rfl
theorem cgo_true : cgo ex (some true) e H C s1 s2 = ex e H C s1 := rfl
theorem cgo_false : cgo ex (some false) e H C s1 s2 = ex e H C s2 := rfl
theorem pgo_some : pgo ex (some p) o l s e H C = .call C p.1 p.2 o.dst l s e H := rfl
theorem pgo_none : pgo ex none o l s e H C = sgo ex (step1 o.op e H) o.dst e C (.ops l :: s) := rfl
theorem wgo_true : wgo ex (some true) o l s e H C = pgo ex (callee o.op e) o l s e H C := rfl
theorem wgo_false : wgo ex (some false) o l s e H C = ex (bind o.dst (.tuple #[]) e) H C (.ops l :: s) := rfl
theorem xgo_some : xgo ex (some s) id e H C = ex e H C s := rfl
theorem xgo_none : xgo ex none id e H C = .done C (.exit id) e H := rfl
end

def exec : Nat → Env → AHeap → Prop → List Item → Out
  | 0, _, _, _, _ => .fail
  | _ + 1, e, H, C, [] => .done C .normal e H
  | n + 1, e, H, C, .blk _ :: s => exec n e H C s
  | n + 1, e, H, C, .ops [] :: s => exec n e H C s
  | n + 1, e, H, C, .ops (o :: l) :: s => wgo (exec n) (wantedA o.guard e) o l s e H C
  | n + 1, e, H, C, .code .skip :: s => exec n e H C s
  | n + 1, e, H, C, .code (.ops l) :: s => exec n e H C (.ops l :: s)
  | _ + 1, e, H, C, .code (.dops l af) :: s => .draw C l af s e H
  | n + 1, e, H, C, .code (.seq a b) :: s => exec n e H C (.code a :: .code b :: s)
  | n + 1, e, H, C, .code (.cond x a b) :: s => cgo (exec n) (toB (ev e x)) e H C (.code a :: s) (.code b :: s)
  | n + 1, e, H, C, .code (.block id b) :: s => exec n e H C (.code b :: .blk id :: s)
  | _ + 1, e, H, C, .code (.loop b) :: s => .loop C b s e H
  | n + 1, e, H, C, .code (.exit id) :: s => xgo (exec n) (exitS id s) id e H C
  | _ + 1, e, H, C, .code .ret :: _ => .done C .ret e H

section
variable {P : Program} {hints : List String} {N k : Nat}

def There (P : Program) (f : FuncId) : Prop := ∃ fn c, P.funcs[f]? = some fn ∧ fn.body = some c ∧ (fn.name == "runtime.NumGoroutine") = false

/-- What is left to show of an outcome. -/
def Holds (P : Program) (hints : List String) (N k : Nat) (Q : APost) : Out → Prop
  | .done C x e H => C ∧ Q x e H
  | .call C f vs dst l s e H => C ∧ There P f ∧ ACalls P f vs H fun v H' => SW P hints N k (.ops l :: s) Q (bind dst v e) H'
  | .loop C b s e H => C ∧ SW P hints N k (.code (.loop b) :: s) Q e H
  | .draw C l af s e H => C ∧ SW P hints N k (.code (.dops l af) :: s) Q e H
  | .fail => False

theorem step1_len {o : AOp} {e : Env} {H H' : AHeap} {C : Prop} {v : Value} (h : step1 o e H = some (C, v, H')) : H.length ≤ H'.length := by
  unfold step1 at h
  split at h
  · cases h; exact Nat.le_refl _
  · unfold aeff at h
    repeat' split at h
    all_goals first
      | (cases h; done)
      | (cases h; simp; done)
      | (cases h; simp; omega)

theorem exitS_SX {id : Nat} {Q : APost} {e : Env} {H : AHeap} : ∀ {s : List Item}, (match exitS id s with | some s' => SW P hints N k s' Q e H | none => Q (.exit id) e H) → SX P hints N k id s Q e H
  | [], h => by rw [SX]; exact h
  | .blk id' :: s, h => by
    rw [SX]
    simp only [exitS] at h
    split
    · rename_i hi; rw [if_pos hi] at h; exact h
    · rename_i hi; rw [if_neg hi] at h; exact exitS_SX h
  | .code c :: s, h => by rw [SX]; · exact exitS_SX h
                          · intro _ hh; cases hh
  | .ops l :: s, h => by rw [SX]; · exact exitS_SX h
                         · intro _ hh; cases hh

theorem exec_sound {Q : APost} : ∀ (n : Nat) (s : List Item) (e : Env) (H : AHeap) (C : Prop), k ≤ H.length → Holds P hints N k Q (exec n e H C s) → C ∧ SW P hints N k s Q e H := by
  intro n
  induction n with
  | zero => intro s e H C hk h; rw [exec] at h; exact h.elim
  | succ n ih =>
    intro s e H C hk h
    match s, h with
    | [], h => rw [exec] at h; exact ⟨h.1, by rw [SW]; exact h.2⟩
    | .blk id :: s, h => rw [exec] at h; have := ih _ _ _ _ hk h; exact ⟨this.1, by rw [SW]; exact this.2⟩
    | .ops [] :: s, h => rw [exec] at h; have := ih _ _ _ _ hk h; exact ⟨this.1, sw_ops_nil this.2⟩
    | .ops (o :: l) :: s, h =>
      rw [exec] at h
      cases ht : wantedA o.guard e with
      | none => rw [ht] at h; exact h.elim
      | some t =>
        cases t with
        | false =>
          rw [ht, wgo_false] at h
          have := ih _ _ _ _ hk h
          exact ⟨this.1, sw_ops_not ht this.2⟩
        | true =>
          rw [ht, wgo_true] at h
          cases hcal : callee o.op e with
          | some p =>
            rw [hcal, pgo_some] at h
            obtain ⟨hC, ⟨fn, c, hf, hb, hn⟩, hcall⟩ := h
            exact ⟨hC, sw_call hk ht hcal hf hb hn hcall⟩
          | none =>
            rw [hcal, pgo_none] at h
            cases hs : step1 o.op e H with
            | none => rw [hs] at h; exact h.elim
            | some r =>
              rw [hs, sgo_some] at h
              have := ih _ _ _ _ (Nat.le_trans hk (step1_len hs)) h
              exact ⟨this.1.1, sw_ops_step hk ht hs this.1.2 this.2⟩
    | .code .skip :: s, h => rw [exec] at h; have := ih _ _ _ _ hk h; exact ⟨this.1, sw_skip this.2⟩
    | .code (.ops l) :: s, h => rw [exec] at h; have := ih _ _ _ _ hk h; exact ⟨this.1, sw_region this.2⟩
    | .code (.dops l af) :: s, h => rw [exec] at h; exact h
    | .code (.seq a b) :: s, h => rw [exec] at h; have := ih _ _ _ _ hk h; exact ⟨this.1, sw_seq this.2⟩
    | .code (.cond x a b) :: s, h =>
      rw [exec] at h
      cases hx : ev e x with
      | none => rw [hx] at h; exact h.elim
      | some v =>
        cases v with
        | bool t =>
          rw [hx] at h
          simp only [toB] at h
          cases t with
          | true => rw [cgo_true] at h; have := ih _ _ _ _ hk h; exact ⟨this.1, sw_cond hx (by simpa using this.2)⟩
          | false => rw [cgo_false] at h; have := ih _ _ _ _ hk h; exact ⟨this.1, sw_cond hx (by simpa using this.2)⟩
        | _ => rw [hx] at h; exact h.elim
    | .code (.block id b) :: s, h => rw [exec] at h; have := ih _ _ _ _ hk h; exact ⟨this.1, sw_block this.2⟩
    | .code (.loop b) :: s, h => rw [exec] at h; exact h
    | .code (.exit id) :: s, h =>
      rw [exec] at h
      cases hs' : exitS id s with
      | some s' =>
        rw [hs', xgo_some] at h
        have := ih _ _ _ _ hk h
        exact ⟨this.1, sw_exit (exitS_SX (by rw [hs']; exact this.2))⟩
      | none =>
        rw [hs', xgo_none] at h
        exact ⟨h.1, sw_exit (exitS_SX (by rw [hs']; exact h.2))⟩
    | .code .ret :: s, h => rw [exec] at h; exact ⟨h.1, sw_ret h.2⟩

theorem run (n : Nat) {Q : APost} {s : List Item} {e : Env} {H : AHeap} (hk : k ≤ H.length) (h : Holds P hints N k Q (exec n e H True s)) : SW P hints N k s Q e H := (exec_sound n s e H True hk h).2
end
end Go.Abs
