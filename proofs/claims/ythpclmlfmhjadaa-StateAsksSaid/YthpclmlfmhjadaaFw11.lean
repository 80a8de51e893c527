/-
  Codes: the abstract code, what it means, the rules of its parts.
-/
import Derived.Test.YthpclmlfmhjadaaFw10
set_option linter.unusedSectionVars false
set_option linter.unusedSimpArgs false
set_option linter.unusedVariables false
namespace Go.Abs
variable [Gl : Globals]

structure AOper where
  dst : Option Nat
  op : AOp
  guard : Option (Nat × Bool)

inductive ACode where
  | skip
  | ops (l : List AOper)
  | dops (l : List AOper) (after : List (List Nat))
  | seq (a b : ACode)
  | cond (c : Operand) (a b : ACode)
  | block (id : Nat) (b : ACode)
  | loop (b : ACode)
  | exit (id : Nat)
  | ret

def dstOk (d : Option Nat) (N : Nat) : Bool := match d with | some d => decide (d < N) | none => true

def coper (P : Program) (hints : List String) (N : Nat) (ops : Array Oper) (o : Oper) : Option AOper :=
  match cop P hints o with
  | none => none
  | some ao =>
    if dstOk o.dst N = true then
      match o.guard with
      | none => some ⟨o.dst, ao, none⟩
      | some (j, b) => match (ops[j]?).bind (·.dst) with
        | some t => some ⟨o.dst, ao, some (t, b)⟩
        | none => none
    else none

def binding (o : Oper) : List Nat := (o.after.toList.filter (Region.binds .any)).map (·.on)

def ccode (P : Program) (hints : List String) (N : Nat) : Code → Option ACode
  | .skip => some .skip
  | .region _ ops draw => match ops.toList.mapM (coper P hints N ops) with
    | some l => if draw = true then some (.dops l (ops.toList.map binding)) else some (.ops l)
    | none => none
  | .seq a b => match ccode P hints N a, ccode P hints N b with | some a', some b' => some (.seq a' b') | _, _ => none
  | .cond c a b => match ccode P hints N a, ccode P hints N b with | some a', some b' => some (.cond c a' b') | _, _ => none
  | .block id b => match ccode P hints N b with | some b' => some (.block id b') | none => none
  | .loop b => match ccode P hints N b with | some b' => some (.loop b') | none => none
  | .exit id => some (.exit id)
  | .ret => some .ret
  | _ => none

section
variable {P : Program} {hints : List String} {N k : Nat}

abbrev APost := Exit → Env → AHeap → Prop

/-- A state of the model that the abstract one tells of. -/
structure StRel (N : Nat) (ρ : Emb) (Pr : Nat → Prop) (h0 : Keep) (e : Env) (H : AHeap) (a : Act) (w : World) : Prop where
  env : ERel ρ e a
  size : a.tmps.size = N
  mem : Models ρ H Pr h0 w

/-- What is asked behind: a state that the abstract post allows; the first k ids are as they were. -/
def Post (N k : Nat) (ρ : Emb) (Pr : Nat → Prop) (h0 : Keep) (Q : APost) : Exit → Act → World → Prop :=
  fun x a w => ∃ ρ' e' H', Q x e' H' ∧ StRel N ρ' Pr h0 e' H' a w ∧ ∀ i, i < k → ρ' i = ρ i

theorem Post.mono {ρ : Emb} {Pr : Nat → Prop} {h0 : Keep} {Q Q' : APost} (h : ∀ x e H, Q x e H → Q' x e H) {x : Exit} {a : Act} {w : World} (hp : Post N k ρ Pr h0 Q x a w) : Post N k ρ Pr h0 Q' x a w :=
  let ⟨ρ', e', H', h1, h2⟩ := hp; ⟨ρ', e', H', h _ _ _ h1, h2⟩
theorem Post.trans {ρ ρ1 : Emb} {Pr : Nat → Prop} {h0 : Keep} {Q : APost} (h : ∀ i, i < k → ρ1 i = ρ i) {x : Exit} {a : Act} {w : World} (hp : Post N k ρ1 Pr h0 Q x a w) : Post N k ρ Pr h0 Q x a w :=
  let ⟨ρ', e', H', h1, h2, h3⟩ := hp; ⟨ρ', e', H', h1, h2, fun i hi => (h3 i hi).trans (h i hi)⟩

def SemW (P : Program) (N k : Nat) (c : Code) (Q : APost) (e : Env) (H : AHeap) : Prop :=
  ∀ ρ Pr h0 a w, StRel N ρ Pr h0 e H a w → c.wp P (Post N k ρ Pr h0 Q) a w

def AW (P : Program) (hints : List String) (N k : Nat) (ac : ACode) (Q : APost) (e : Env) (H : AHeap) : Prop :=
  ∀ c, ccode P hints N c = some ac → SemW P N k c Q e H

/-- The rest of a region that runs in the text's order. -/
def OW (P : Program) (hints : List String) (N k : Nat) (l : List AOper) (K : Env → AHeap → Prop) (e : Env) (H : AHeap) : Prop :=
  ∀ (ops : Array Oper) (j : Nat) (all : List AOper), ops.toList.mapM (coper P hints N ops) = some all → all.drop j = l → ∀ (Q : APost), (∀ e H, K e H → Q .normal e H) →
    ∀ ρ Pr h0 a w, StRel N ρ Pr h0 e H a w → wpOps P ops (Post N k ρ Pr h0 Q) (List.range' j (ops.size - j)) a w

inductive Item where
  | code (c : ACode)
  | ops (l : List AOper)
  | blk (id : Nat)

mutual
def SW (P : Program) (hints : List String) (N k : Nat) : List Item → APost → Env → AHeap → Prop
  | [], Q, e, H => Q .normal e H
  | .code c :: s, Q, e, H => AW P hints N k c (fun x e H => match x with | .normal => SW P hints N k s Q e H | .exit id => SX P hints N k id s Q e H | .ret => Q .ret e H | _ => False) e H
  | .ops l :: s, Q, e, H => OW P hints N k l (SW P hints N k s Q) e H
  | .blk _ :: s, Q, e, H => SW P hints N k s Q e H
def SX (P : Program) (hints : List String) (N k : Nat) : Nat → List Item → APost → Env → AHeap → Prop
  | id, [], Q, e, H => Q (.exit id) e H
  | id, .blk id' :: s, Q, e, H => if id = id' then SW P hints N k s Q e H else SX P hints N k id s Q e H
  | id, _ :: s, Q, e, H => SX P hints N k id s Q e H
end

/-- What goes on behind a part of the code. -/
def Cont (P : Program) (hints : List String) (N k : Nat) (s : List Item) (Q : APost) : APost := fun x e H => match x with
  | .normal => SW P hints N k s Q e H
  | .exit id => SX P hints N k id s Q e H
  | .ret => Q .ret e H
  | _ => False

theorem SW_code {c : ACode} {s : List Item} {Q : APost} {e : Env} {H : AHeap} : SW P hints N k (.code c :: s) Q e H = AW P hints N k c (Cont P hints N k s Q) e H := by
  rw [SW]; rfl

theorem SemW.mono {c : Code} {Q Q' : APost} {e : Env} {H : AHeap} (h : SemW P N k c Q e H) (hq : ∀ x e H, Q x e H → Q' x e H) : SemW P N k c Q' e H :=
  fun ρ Pr h0 a w hs => wp_mono (h ρ Pr h0 a w hs) fun _ _ _ hp => hp.mono hq

theorem sw_skip {s : List Item} {Q : APost} {e : Env} {H : AHeap} (h : SW P hints N k s Q e H) : SW P hints N k (.code .skip :: s) Q e H := by
  rw [SW_code]
  intro c hc ρ Pr h0 a w hs
  cases c <;> simp only [ccode] at hc <;> first | (split at hc <;> first | (cases hc; done) | (split at hc <;> cases hc; done)) | (cases hc; done) | skip
  exact wp_skip ⟨ρ, e, H, h, hs, fun _ _ => rfl⟩

theorem sw_ret {s : List Item} {Q : APost} {e : Env} {H : AHeap} (h : Q .ret e H) : SW P hints N k (.code .ret :: s) Q e H := by
  rw [SW_code]
  intro c hc ρ Pr h0 a w hs
  cases c <;> simp only [ccode] at hc <;> first | (split at hc <;> first | (cases hc; done) | (split at hc <;> cases hc; done)) | (cases hc; done) | skip
  exact wp_ret ⟨ρ, e, H, h, hs, fun _ _ => rfl⟩

theorem sw_exit {id : Nat} {s : List Item} {Q : APost} {e : Env} {H : AHeap} (h : SX P hints N k id s Q e H) : SW P hints N k (.code (.exit id) :: s) Q e H := by
  rw [SW_code]
  intro c hc ρ Pr h0 a w hs
  cases c <;> simp only [ccode] at hc <;> first | (split at hc <;> first | (cases hc; done) | (split at hc <;> cases hc; done)) | (cases hc; done) | skip
  cases hc
  exact wp_exit ⟨ρ, e, H, h, hs, fun _ _ => rfl⟩

theorem sw_seq {x y : ACode} {s : List Item} {Q : APost} {e : Env} {H : AHeap} (h : SW P hints N k (.code x :: .code y :: s) Q e H) : SW P hints N k (.code (.seq x y) :: s) Q e H := by
  rw [SW_code] at h ⊢
  intro c hc
  cases c <;> simp only [ccode] at hc <;> first | (cases hc; done) | skip
  case seq a b =>
    split at hc
    · rename_i a' b' ha hb; cases hc
      intro ρ Pr h0 st w hs
      refine wp_seq (wp_mono (h a ha ρ Pr h0 st w hs) fun ex st' w' hp => ?_)
      obtain ⟨ρ', e', H', hq, hs', hk⟩ := hp
      cases ex with
      | normal =>
        have hq' : SW P hints N k (.code y :: s) Q e' H' := hq
        rw [SW_code] at hq'
        exact wp_mono (hq' b hb ρ' Pr h0 st' w' hs') fun _ _ _ hp => hp.trans hk
      | exit id => exact ⟨ρ', e', H', by simpa [Cont, SX] using hq, hs', hk⟩
      | ret => exact ⟨ρ', e', H', hq, hs', hk⟩
      | goto l => exact hq.elim
      | panic c => exact hq.elim
      | outgrown => exact hq.elim
    · cases hc
  all_goals (split at hc <;> first | (cases hc; done) | (split at hc <;> cases hc; done))

theorem sw_block {id : Nat} {x : ACode} {s : List Item} {Q : APost} {e : Env} {H : AHeap} (h : SW P hints N k (.code x :: .blk id :: s) Q e H) : SW P hints N k (.code (.block id x) :: s) Q e H := by
  rw [SW_code] at h ⊢
  intro c hc
  cases c <;> simp only [ccode] at hc <;> first | (cases hc; done) | skip
  case block id' b =>
    split at hc
    · rename_i b' hb; cases hc
      intro ρ Pr h0 st w hs
      refine wp_block (wp_mono (h b hb ρ Pr h0 st w hs) fun ex st' w' hp => ?_)
      obtain ⟨ρ', e', H', hq, hs', hk⟩ := hp
      cases ex with
      | normal => exact ⟨ρ', e', H', by simpa [Cont, SW] using hq, hs', hk⟩
      | exit i =>
        simp only [Cont, SX] at hq
        simp only [Exit.inBlock]
        split at hq
        · rename_i hi; subst hi
          rw [if_pos rfl]
          exact ⟨ρ', e', H', hq, hs', hk⟩
        · rename_i hi
          rw [if_neg hi]
          exact ⟨ρ', e', H', hq, hs', hk⟩
      | ret => exact ⟨ρ', e', H', hq, hs', hk⟩
      | goto l => exact hq.elim
      | panic c => exact hq.elim
      | outgrown => exact hq.elim
    · cases hc
  all_goals (split at hc <;> first | (cases hc; done) | (split at hc <;> cases hc; done))

theorem sw_cond {x : Operand} {t : Bool} {y z : ACode} {s : List Item} {Q : APost} {e : Env} {H : AHeap} (hx : ev e x = some (.bool t))
    (h : SW P hints N k (.code (if t = true then y else z) :: s) Q e H) : SW P hints N k (.code (.cond x y z) :: s) Q e H := by
  rw [SW_code] at h ⊢
  intro c hc
  cases c <;> simp only [ccode] at hc <;> first | (cases hc; done) | skip
  case cond x' a b =>
    split at hc
    · rename_i a' b' ha hb; cases hc
      intro ρ Pr h0 st w hs
      refine wp_cond (t := t) (ev_bool hs.env hx) ?_
      cases t
      · exact h b (by simpa using hb) ρ Pr h0 st w hs
      · exact h a (by simpa using ha) ρ Pr h0 st w hs
    · cases hc
  all_goals (split at hc <;> first | (cases hc; done) | (split at hc <;> cases hc; done))
end
end Go.Abs
