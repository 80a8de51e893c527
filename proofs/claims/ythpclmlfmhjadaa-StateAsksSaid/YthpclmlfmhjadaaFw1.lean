/-
  A small abstract machine over the model's own codes: abstract memory, and what it says of a world. No program in sight.
-/
import Derived.Calls
import Derived.Orders
import Derived.Laws.World
import Derived.Laws.Sem
import Derived.Laws.Rows
import Derived.Laws.Cells
set_option linter.unusedSectionVars false
set_option linter.unusedSimpArgs false
set_option linter.unusedVariables false
namespace Go.Abs

def HID : Nat := 9223372036854775808
/-- A capacity of which nothing is known. -/
def ANY : Nat := 9223372036854775809

abbrev Bs := List UInt8
/-- A string of bytes. -/
def B (l : Bs) : ByteArray := ⟨⟨l⟩⟩

/-- Where an object of the abstract memory lies: 'abs': nowhere (it is empty). -/
structure Loc where
  abs : Bool
  blk : Nat
  base : Nat
  cap : Nat
  sz : Nat
abbrev Emb := Nat → Option Loc

def atom : Value → Bool
  | .bool _ | .int _ _ | .float _ _ | .complex _ _ _ | .string _ | .pointer none | .map none | .chan none | .nilFunc | .nilIface => true
  | _ => false

mutual
inductive VRel (ρ : Emb) : Value → Value → Prop
  | atom {v : Value} : atom v = true → VRel ρ v v
  | ptr {i off : Nat} {L : Loc} : ρ i = some L → L.abs = false → VRel ρ (.pointer (some ⟨i, off, none⟩)) (.pointer (some ⟨L.blk, L.base + off, none⟩))
  | slice {i off n c : Nat} {L : Loc} : ρ i = some L → L.abs = false → c ≠ HID → c ≠ ANY → VRel ρ (.slice (some ⟨i, off, none⟩) n c) (.slice (some ⟨L.blk, L.base + off, none⟩) n c)
  | sliceH {i off n c : Nat} {L : Loc} : ρ i = some L → L.abs = false → L.base + off + c * L.sz = L.cap → VRel ρ (.slice (some ⟨i, off, none⟩) n HID) (.slice (some ⟨L.blk, L.base + off, none⟩) n c)
  | sliceE {i : Nat} {L : Loc} {a : Option Addr} : ρ i = some L → L.abs = true → VRel ρ (.slice (some ⟨i, 0, none⟩) 0 HID) (.slice a 0 0)
  | sliceA {i off n c : Nat} {L : Loc} {a : Option Addr} : ρ i = some L → (0 < n → L.abs = false ∧ a = some ⟨L.blk, L.base + off, none⟩) → n ≤ c → VRel ρ (.slice (some ⟨i, off, none⟩) n ANY) (.slice a n c)
  | sliceN {a : Option Addr} : VRel ρ (.slice none 0 0) (.slice a 0 0)
  | sliceX {a : Option Addr} {c : Nat} : VRel ρ (.slice none 0 HID) (.slice a 0 c)
  | map {i : Nat} {L : Loc} : ρ i = some L → L.abs = false → VRel ρ (.map (some i)) (.map (some L.blk))
  | iface {t : TypeId} {v v' : Value} : VRel ρ v v' → VRel ρ (.iface t v) (.iface t v')
  | func {f : Fn} {a b a' b' : List Value} : VsRel ρ a a' → VsRel ρ b b' → VRel ρ (.func f ⟨a⟩ ⟨b⟩) (.func f ⟨a'⟩ ⟨b'⟩)
  | agg {a a' : List Value} : VsRel ρ a a' → VRel ρ (.agg ⟨a⟩) (.agg ⟨a'⟩)
  | tuple {a a' : List Value} : VsRel ρ a a' → VRel ρ (.tuple ⟨a⟩) (.tuple ⟨a'⟩)
inductive VsRel (ρ : Emb) : List Value → List Value → Prop
  | nil : VsRel ρ [] []
  | cons {v v' : Value} {l l' : List Value} : VRel ρ v v' → VsRel ρ l l' → VsRel ρ (v :: l) (v' :: l')
end

def Emb.le (ρ ρ' : Emb) : Prop := ∀ i L, ρ i = some L → ρ' i = some L
theorem Emb.le_refl (ρ : Emb) : ρ.le ρ := fun _ _ h => h
theorem Emb.le_trans {a b c : Emb} (h : a.le b) (h' : b.le c) : a.le c := fun i L e => h' i L (h i L e)

mutual
theorem VRel.mono {ρ ρ' : Emb} (hl : ρ.le ρ') : ∀ {v v' : Value}, VRel ρ v v' → VRel ρ' v v'
  | _, _, .atom h => .atom h
  | _, _, .ptr h h' => .ptr (hl _ _ h) h'
  | _, _, .slice h h' h'' h3 => .slice (hl _ _ h) h' h'' h3
  | _, _, .sliceA h h' h'' => .sliceA (hl _ _ h) h' h''
  | _, _, .sliceH h h' h'' => .sliceH (hl _ _ h) h' h''
  | _, _, .sliceE h h' => .sliceE (hl _ _ h) h'
  | _, _, .sliceN => .sliceN
  | _, _, .sliceX => .sliceX
  | _, _, .map h h' => .map (hl _ _ h) h'
  | _, _, .iface h => .iface (h.mono hl)
  | _, _, .func h h' => .func (h.mono hl) (h'.mono hl)
  | _, _, .agg h => .agg (h.mono hl)
  | _, _, .tuple h => .tuple (h.mono hl)
theorem VsRel.mono {ρ ρ' : Emb} (hl : ρ.le ρ') : ∀ {v v' : List Value}, VsRel ρ v v' → VsRel ρ' v v'
  | _, _, .nil => .nil
  | _, _, .cons h h' => .cons (h.mono hl) (h'.mono hl)
end

theorem VsRel.length {ρ : Emb} : ∀ {l l' : List Value}, VsRel ρ l l' → l.length = l'.length
  | _, _, .nil => rfl
  | _, _, .cons _ h => by simp [h.length]
theorem VsRel.get {ρ : Emb} : ∀ {l l' : List Value}, VsRel ρ l l' → ∀ {i : Nat} {v : Value}, l[i]? = some v → ∃ v', l'[i]? = some v' ∧ VRel ρ v v'
  | _, _, .nil, i, v, e => by simp at e
  | _, _, .cons h hs, 0, v, e => by simp at e; subst e; exact ⟨_, rfl, h⟩
  | _, _, .cons h hs, i + 1, v, e => by simp at e ⊢; exact hs.get e
theorem VsRel.get' {ρ : Emb} : ∀ {l l' : List Value}, VsRel ρ l l' → ∀ {i : Nat} {v' : Value}, l'[i]? = some v' → ∃ v, l[i]? = some v ∧ VRel ρ v v'
  | _, _, .nil, i, v, e => by simp at e
  | _, _, .cons h hs, 0, v, e => by simp at e; subst e; exact ⟨_, rfl, h⟩
  | _, _, .cons h hs, i + 1, v, e => by simp at e ⊢; exact hs.get' e
theorem VsRel.of_get {ρ : Emb} : ∀ {l l' : List Value}, l.length = l'.length → (∀ (i : Nat) (v v' : Value), l[i]? = some v → l'[i]? = some v' → VRel ρ v v') → VsRel ρ l l'
  | [], [], _, _ => .nil
  | [], _ :: _, h, _ => by simp at h
  | _ :: _, [], h, _ => by simp at h
  | a :: l, b :: l', h, hg => .cons (hg 0 a b rfl rfl) (VsRel.of_get (by simpa using h) fun i v v' e e' => hg (i + 1) v v' (by simpa using e) (by simpa using e'))
theorem VsRel.append {ρ : Emb} : ∀ {l l' m m' : List Value}, VsRel ρ l l' → VsRel ρ m m' → VsRel ρ (l ++ m) (l' ++ m')
  | _, _, _, _, .nil, h => h
  | _, _, _, _, .cons h hs, h' => .cons h (hs.append h')
theorem VsRel.take {ρ : Emb} : ∀ {l l' : List Value}, VsRel ρ l l' → ∀ n, VsRel ρ (l.take n) (l'.take n)
  | _, _, .nil, n => by simp; exact .nil
  | _, _, .cons h hs, 0 => .nil
  | _, _, .cons h hs, n + 1 => .cons h (hs.take n)
theorem VsRel.drop {ρ : Emb} : ∀ {l l' : List Value}, VsRel ρ l l' → ∀ n, VsRel ρ (l.drop n) (l'.drop n)
  | _, _, .nil, n => by simp; exact .nil
  | _, _, .cons h hs, 0 => .cons h hs
  | _, _, .cons h hs, n + 1 => hs.drop n
theorem VsRel.set {ρ : Emb} : ∀ {l l' : List Value}, VsRel ρ l l' → ∀ (n : Nat) {v v' : Value}, VRel ρ v v' → VsRel ρ (l.set n v) (l'.set n v')
  | _, _, .nil, n, _, _, _ => by simp; exact .nil
  | _, _, .cons h hs, 0, _, _, hv => .cons hv hs
  | _, _, .cons h hs, n + 1, _, _, hv => .cons h (hs.set n hv)

/-! ### Abstract memory -/
inductive AObj where
  | dead
  | blk (c : List Value) (T : TypeId)
  | row (sz : Nat) (c : List Value) (T : TypeId)
  | ro (c : List Value)
  | fro (c : List Value)
  | map (es : List (Bs × Value))
abbrev AHeap := List AObj
abbrev Env := List (Nat × Value)

def AObj.own : AObj → Bool
  | .blk .. | .row .. | .map .. | .fro .. => true
  | _ => false
/-- Its cells may be written. -/
def AObj.rw : AObj → Bool
  | .blk .. | .row .. => true
  | _ => false
def AObj.cells : AObj → Option (List Value)
  | .blk c _ | .row _ c _ | .ro c | .fro c => some c
  | _ => none

def MRel (ρ : Emb) (es : List (Bs × Value)) (es' : List MapEntry) : Prop :=
  es.length = es'.length ∧ ∀ (i : Nat) x x', es[i]? = some x → es'[i]? = some x' → x'.key = .string (B x.1) ∧ VRel ρ x.2 x'.val ∧ x'.born = i

def ObjOk (ρ : Emb) (w : World) (L : Loc) : AObj → Prop
  | .dead => True
  | .blk c T => L.abs = false ∧ L.base = 0 ∧ L.cap = c.length ∧ ∃ c', w.heap[L.blk]? = some (.cells c' T) ∧ VsRel ρ c c'.toList
  | .row sz c T => (L.abs = true ∧ c = []) ∨ (L.abs = false ∧ L.base = 0 ∧ L.sz = sz ∧ ∃ c', w.heap[L.blk]? = some (.cells c' T) ∧ L.cap = c'.size ∧ VsRel ρ c (c'.toList.take c.length))
  | .ro c => (L.abs = true ∧ c = []) ∨ (L.abs = false ∧ ∃ c' T fr, w.heap[L.blk]? = some (.cells c' T fr) ∧ VsRel ρ c ((c'.toList.drop L.base).take c.length))
  | .fro c => L.abs = false ∧ L.base = 0 ∧ ∃ c' T fr, w.heap[L.blk]? = some (.cells c' T fr) ∧ VsRel ρ c (c'.toList.take c.length)
  | .map es => L.abs = false ∧ ∃ es', w.heap[L.blk]? = some (.map es' es.length) ∧ MRel ρ es es'.toList

/-- What must stay as it is: the blocks' contents, and which of them a read-only object may lie in. -/
structure Keep where
  at' : Nat → Option Obj
  ro : Nat → Prop
  w0 : World

/-- What the program's own variables hold, from the start on. -/
class Globals where
  tab : List (Nat × (Obj → Prop))

variable [Gl : Globals]
structure Models (ρ : Emb) (H : AHeap) (Pr : Nat → Prop) (h0 : Keep) (w : World) : Prop where
  ok : ∀ i o, H[i]? = some o → ∃ L, ρ i = some L ∧ ObjOk ρ w L o
  bound : ∀ i, H.length ≤ i → ρ i = none
  own : ∀ i o L, H[i]? = some o → o.own = true → ρ i = some L → L.abs = false → ¬ Pr L.blk
  inj : ∀ i j oi oj Li Lj, i ≠ j → H[i]? = some oi → H[j]? = some oj → oi.own = true → oj ≠ .dead → ρ i = some Li → ρ j = some Lj → Li.abs = false → Lj.abs = false → Li.blk ≠ Lj.blk
  keep : ∀ b, Pr b → w.heap[b]? = h0.at' b ∧ b < w.heap.size
  ro : ∀ i c L, H[i]? = some (.ro c) → ρ i = some L → L.abs = false → h0.ro L.blk
  rop : ∀ b, h0.ro b → Pr b
  glob : ∀ x ∈ Gl.tab, Pr x.1 ∧ ∃ o, w.heap[x.1]? = some o ∧ x.2 o
  io : w.os = h0.w0.os ∧ w.output = h0.w0.output

def look : Env → Nat → Option Value
  | [], _ => none
  | (a, b) :: r, t => if a = t then some b else look r t

structure ERel (ρ : Emb) (e : Env) (a : Act) : Prop where
  tmps : ∀ t v, look e t = some v → ∃ v', a.tmps[t]? = some v' ∧ VRel ρ v v'
  defers : a.defers = []

def ev (e : Env) : Operand → Option Value
  | .tmp t => look e t
  | .const v => if atom v then some v else match v with | .slice none 0 0 => some v | .iface t u => if atom u then some (.iface t u) else none | _ => none
  | .func f => some (.func (.func f) #[] #[])
  | .global _ => none

theorem ERel.mono {ρ ρ' : Emb} {e : Env} {a : Act} (h : ERel ρ e a) (hl : ρ.le ρ') : ERel ρ' e a :=
  ⟨fun t v hv => let ⟨v', h1, h2⟩ := h.tmps t v hv; ⟨v', h1, h2.mono hl⟩, h.defers⟩

theorem ERel.ev {ρ : Emb} {e : Env} {a : Act} (h : ERel ρ e a) {x : Operand} {v : Value} (hx : ev e x = some v) : VRel ρ v (a.eval x) := by
  cases x with
  | tmp t =>
    obtain ⟨v', h1, h2⟩ := h.tmps t v hx
    have : a.eval (.tmp t) = v' := by simp [Act.eval, h1]
    rw [this]; exact h2
  | const u =>
    simp only [Abs.ev] at hx
    split at hx
    · rename_i hu; cases hx; exact .atom hu
    · split at hx
      · cases hx; exact .sliceN
      · split at hx
        · rename_i hu; cases hx; exact .iface (.atom hu)
        · cases hx
      · cases hx
  | func f => cases hx; exact .func (a := []) (b := []) .nil .nil
  | global g => cases hx

def bind (dst : Option Nat) (v : Value) (e : Env) : Env := match dst with | some d => (d, v) :: e | none => e

theorem ERel.bind {ρ : Emb} {e : Env} {a : Act} (h : ERel ρ e a) (dst : Option Nat) {v v' : Value} (hv : VRel ρ v v') (hd : ∀ d, dst = some d → d < a.tmps.size) : ERel ρ (Abs.bind dst v e) (a.put dst v') := by
  cases dst with
  | none => exact h
  | some d =>
    have hlt := hd d rfl
    refine ⟨fun t u hu => ?_, h.defers⟩
    simp only [Abs.bind, look] at hu
    by_cases ht : d = t
    · subst ht
      simp only [if_true] at hu; cases hu
      exact ⟨v', by simp [Act.put, hlt], hv⟩
    · simp only [ht, if_false] at hu
      obtain ⟨u', h1, h2⟩ := h.tmps t u hu
      exact ⟨u', by simp only [Act.put]; rw [Array.getElem?_setIfInBounds_ne ht]; exact h1, h2⟩
end Go.Abs
