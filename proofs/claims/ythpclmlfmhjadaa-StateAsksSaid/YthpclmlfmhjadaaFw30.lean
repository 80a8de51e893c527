/-
  The rules that a run is simplified by, in one.
-/
import Derived.Test.YthpclmlfmhjadaaFw29
set_option linter.unusedSectionVars false
set_option linter.unusedVariables false
namespace Go.Abs
theorem rwB1 {c : List Value} {T : TypeId} : (AObj.blk c T).rw = true := rfl
theorem rwB2 {s : Nat} {c : List Value} {T : TypeId} : (AObj.row s c T).rw = true := rfl

theorem Q1 : (∀ [Gl : Go.Abs.Globals] {ex : Go.Abs.Ex} {r : Prop × Go.Value × Go.Abs.AHeap} {dst : Option Nat} {e : Go.Abs.Env}   {C : Prop} {s : List Go.Abs.Item},   Go.Abs.sgo ex (Option.some r) dst e C s = ex (Go.Abs.bind dst r.snd.fst e) r.snd.snd (C ∧ r.fst) s) ∧
  (∀ [Gl : Go.Abs.Globals] {ex : Go.Abs.Ex} {e : Go.Abs.Env} {H : Go.Abs.AHeap} {C : Prop} {s1 s2 : List Go.Abs.Item},   Go.Abs.cgo ex (Option.some Bool.true) e H C s1 s2 = ex e H C s1) ∧
  (∀ [Gl : Go.Abs.Globals] {ex : Go.Abs.Ex} {e : Go.Abs.Env} {H : Go.Abs.AHeap} {C : Prop} {s1 s2 : List Go.Abs.Item},   Go.Abs.cgo ex (Option.some Bool.false) e H C s1 s2 = ex e H C s2) ∧
  (∀ [Gl : Go.Abs.Globals] {ex : Go.Abs.Ex} {e : Go.Abs.Env} {H : Go.Abs.AHeap} {C : Prop} {s : List Go.Abs.Item}   {o : Go.Abs.AOper} {l : List Go.Abs.AOper} {p : Go.FuncId × List Go.Value},   Go.Abs.pgo ex (Option.some p) o l s e H C = Go.Abs.Out.call C p.fst p.snd o.dst l s e H) ∧
  (∀ [Gl : Go.Abs.Globals] {ex : Go.Abs.Ex} {e : Go.Abs.Env} {H : Go.Abs.AHeap} {C : Prop} {s : List Go.Abs.Item}   {o : Go.Abs.AOper} {l : List Go.Abs.AOper},   Go.Abs.pgo ex Option.none o l s e H C = Go.Abs.sgo ex (Go.Abs.step1 o.op e H) o.dst e C (Go.Abs.Item.ops l :: s)) ∧
  (∀ [Gl : Go.Abs.Globals] {ex : Go.Abs.Ex} {e : Go.Abs.Env} {H : Go.Abs.AHeap} {C : Prop} {s : List Go.Abs.Item}   {o : Go.Abs.AOper} {l : List Go.Abs.AOper},   Go.Abs.wgo ex (Option.some Bool.true) o l s e H C = Go.Abs.pgo ex (Go.Abs.callee o.op e) o l s e H C) ∧
  (∀ [Gl : Go.Abs.Globals] {ex : Go.Abs.Ex} {e : Go.Abs.Env} {H : Go.Abs.AHeap} {C : Prop} {s : List Go.Abs.Item}   {o : Go.Abs.AOper} {l : List Go.Abs.AOper},   Go.Abs.wgo ex (Option.some Bool.false) o l s e H C =     ex (Go.Abs.bind o.dst (Go.Value.tuple #[]) e) H C (Go.Abs.Item.ops l :: s)) ∧
  (∀ [Gl : Go.Abs.Globals] {ex : Go.Abs.Ex} {e : Go.Abs.Env} {H : Go.Abs.AHeap} {C : Prop} {s : List Go.Abs.Item}   {id : Nat}, Go.Abs.xgo ex (Option.some s) id e H C = ex e H C s) ∧
  (∀ [Gl : Go.Abs.Globals] {ex : Go.Abs.Ex} {e : Go.Abs.Env} {H : Go.Abs.AHeap} {C : Prop} {id : Nat},   Go.Abs.xgo ex Option.none id e H C = Go.Abs.Out.done C (Go.Exit.exit id) e H) ∧
  (∀ [Gl : Go.Abs.Globals] {D : Go.Abs.Dx} {r : Prop × Go.Value × Go.Abs.AHeap} {dst : Option Nat} {e : Go.Abs.Env}   {rs : Go.Abs.Rs} {an : List Nat},   Go.Abs.dsgo D (Option.some r) rs an dst e =     (r.fst ∧ Go.Abs.recheck rs an r.snd.snd ∧ D rs (Go.Abs.bind dst r.snd.fst e) r.snd.snd)) ∧
  (∀ [Gl : Go.Abs.Globals] {P : Go.Program} {D : Go.Abs.Dx} {e : Go.Abs.Env} {H : Go.Abs.AHeap} {o : Go.Abs.AOper}   {p : Go.FuncId × List Go.Value} {rs : Go.Abs.Rs} {an : List Nat},   Go.Abs.dpgo P D (Option.some p) o rs an e H =     (Go.Abs.There P p.fst ∧ Go.Abs.ACalls P p.fst p.snd H (Go.Abs.dwK D rs an o.dst e))) ∧
  (∀ [Gl : Go.Abs.Globals] {P : Go.Program} {D : Go.Abs.Dx} {e : Go.Abs.Env} {H : Go.Abs.AHeap} {o : Go.Abs.AOper}   {rs : Go.Abs.Rs} {an : List Nat},   Go.Abs.dpgo P D Option.none o rs an e H = Go.Abs.dsgo D (Go.Abs.aeff o.op e H) rs an o.dst e) ∧
  (∀ [Gl : Go.Abs.Globals] {D : Go.Abs.Dx} {q : Prop × Go.Value} {e : Go.Abs.Env} {H : Go.Abs.AHeap} {o : Go.Abs.AOper}   {i : Nat} {rs : Go.Abs.Rs},   Go.Abs.dqgo D (Option.some q) i o rs e H =     (q.fst ∧ D (if o.op.looks = Bool.true then (i, o.op, e, q.snd) :: rs else rs) (Go.Abs.bind o.dst q.snd e) H)) ∧
  (∀ [Gl : Go.Abs.Globals] {P : Go.Program} {D : Go.Abs.Dx} {e : Go.Abs.Env} {H : Go.Abs.AHeap} {o : Go.Abs.AOper}   {i : Nat} {rs : Go.Abs.Rs} {an : List Nat},   Go.Abs.dwgo P D (Option.some Bool.true) i o rs an e H =     if o.op.sync = Bool.true then Go.Abs.dpgo P D (Go.Abs.callee o.op e) o rs an e H     else Go.Abs.dqgo D (Go.Abs.aq o.op e H) i o rs e H) ∧
  (∀ [Gl : Go.Abs.Globals] {P : Go.Program} {D : Go.Abs.Dx} {e : Go.Abs.Env} {H : Go.Abs.AHeap} {o : Go.Abs.AOper}   {i : Nat} {rs : Go.Abs.Rs} {an : List Nat},   Go.Abs.dwgo P D (Option.some Bool.false) i o rs an e H = D rs (Go.Abs.bind o.dst (Go.Value.tuple #[]) e) H) ∧
  (∀ [Gl : Go.Abs.Globals] {os : List Go.Abs.AOp} {R : Go.Value → Go.Abs.AHeap → Prop} {e : Go.Abs.Env} {H : Go.Abs.AHeap},   Go.Abs.RetP os R Go.Exit.ret e H =     ∃ (C : Prop), ∃ (vs : List Go.Value), Go.Abs.resA os e H = Option.some (C, vs) ∧ C ∧ R (Go.Abs.resV vs) H) ∧
  (∀ [Gl : Go.Abs.Globals] {os : List Go.Abs.AOp} {R : Go.Value → Go.Abs.AHeap → Prop} {e : Go.Abs.Env} {H : Go.Abs.AHeap},   Go.Abs.RetP os R Go.Exit.normal e H =     ∃ (C : Prop), ∃ (vs : List Go.Value), Go.Abs.resA os e H = Option.some (C, vs) ∧ C ∧ R (Go.Abs.resV vs) H) :=
  ⟨@Go.Abs.sgo_some, @Go.Abs.cgo_true, @Go.Abs.cgo_false, @Go.Abs.pgo_some, @Go.Abs.pgo_none, @Go.Abs.wgo_true, @Go.Abs.wgo_false, @Go.Abs.xgo_some, @Go.Abs.xgo_none, @Go.Abs.dsgo_some, @Go.Abs.dpgo_some, @Go.Abs.dpgo_none, @Go.Abs.dqgo_some, @Go.Abs.dwgo_true, @Go.Abs.dwgo_false, @Go.Abs.retP_ret, @Go.Abs.retP_normal⟩
theorem Q2 : (∀ {α : Type} {a : α} {l : List α}, (a :: l)[(0 : Nat)]? = Option.some a) ∧
  (∀ {α : Type} {a : α} {i : Nat} {l : List α}, (a :: l)[i + (1 : Nat)]? = l[i]?) ∧
  (∀ {α : Type} {i : Nat}, ([] : List α)[i]? = Option.none) ∧
  (∀ {α : Type} {a : α} {as : List α}, (a :: as).length = as.length + (1 : Nat)) ∧
  (∀ {α : Type}, ([] : List α).length = (0 : Nat)) ∧
  (∀ {α : Type} (as : List α), [] ++ as = as) ∧
  (∀ {α : Type} {a : α} {as bs : List α}, a :: as ++ bs = a :: (as ++ bs)) ∧
  (∀ {α : Type} (as : List α), as ++ [] = as) ∧
  (∀ {α : Type} {x : α} {xs : List α} {a : α}, (x :: xs).set (0 : Nat) a = a :: xs) ∧
  (∀ {α : Type} {x : α} {xs : List α} {i : Nat} {a : α}, (x :: xs).set (i + (1 : Nat)) a = x :: xs.set i a) ∧
  (∀ {α : Type} {l : List α}, List.drop (0 : Nat) l = l) ∧
  (∀ {α : Type} {a : α} {l : List α} {i : Nat}, List.drop (i + (1 : Nat)) (a :: l) = List.drop i l) ∧
  (∀ {α : Type} {i : Nat}, List.drop i ([] : List α) = ([] : List α)) ∧
  (∀ {α : Type} {l : List α}, List.take (0 : Nat) l = ([] : List α)) ∧
  (∀ {α : Type} {a : α} {as : List α} {i : Nat}, List.take (i + (1 : Nat)) (a :: as) = a :: List.take i as) ∧
  (∀ {α : Type} {i : Nat}, List.take i ([] : List α) = ([] : List α)) ∧
  (∀ {α : Type} {as : List α}, as.toArray.size = as.length) ∧
  (∀ {α : Type} {a : α} {l : List α} {f : α → Bool}, (a :: l).all f = (f a && l.all f)) ∧
  (∀ {α : Type} {f : α → Bool}, ([] : List α).all f = Bool.true) ∧
  (∀ {α : Type}, ([] : List α).isEmpty = Bool.true) ∧
  (∀ {α β : Type} {f : α → Option β} {a : α} {l : List α},   List.filterMap f (a :: l) =     match f a with     | Option.none => List.filterMap f l     | Option.some b => b :: List.filterMap f l) ∧
  (∀ {α β : Type} {f : α → Option β}, List.filterMap f [] = []) ∧
  (∀ {α β : Type} {f : α → β} {l : List α} {i : Nat}, (List.map f l)[i]? = Option.map f l[i]?) :=
  ⟨@List.getElem?_cons_zero.{0}, @List.getElem?_cons_succ.{0}, @List.getElem?_nil.{0}, @List.length_cons.{0}, @List.length_nil.{0}, @List.nil_append.{0}, @List.cons_append.{0}, @List.append_nil.{0}, @List.set_cons_zero.{0}, @List.set_cons_succ.{0}, @List.drop_zero.{0}, @List.drop_succ_cons.{0}, @List.drop_nil.{0}, @List.take_zero.{0}, @List.take_succ_cons.{0}, @List.take_nil.{0}, @List.size_toArray.{0}, @List.all_cons.{0}, @List.all_nil.{0}, @List.isEmpty_nil.{0}, @List.filterMap_cons.{0, 0}, @List.filterMap_nil.{0, 0}, @List.getElem?_map.{0, 0}⟩
theorem Q3 : (∀ [Gl : Go.Abs.Globals] {k : Go.IntKind} {n : Int}, (Go.Value.int k n).cells = #[Go.Value.int k n]) ∧
  (∀ [Gl : Go.Abs.Globals] {b : Bool}, (Go.Value.bool b).cells = #[Go.Value.bool b]) ∧
  (∀ [Gl : Go.Abs.Globals] {b : ByteArray}, (Go.Value.string b).cells = #[Go.Value.string b]) ∧
  (∀ [Gl : Go.Abs.Globals] {b : Option Go.Addr}, (Go.Value.pointer b).cells = #[Go.Value.pointer b]) ∧
  (∀ [Gl : Go.Abs.Globals] {a : Option Go.Addr} {n c : Nat}, (Go.Value.slice a n c).cells = #[Go.Value.slice a n c]) ∧
  (∀ [Gl : Go.Abs.Globals] {a : Array Go.Value}, (Go.Value.agg a).cells = a) ∧
  (∀ [Gl : Go.Abs.Globals] {a : Go.TypeId} {n : Go.Value}, (Go.Value.iface a n).cells = #[Go.Value.iface a n]) ∧
  (∀ [Gl : Go.Abs.Globals] {a : Option Nat}, (Go.Value.map a).cells = #[Go.Value.map a]) ∧
  (∀ [Gl : Go.Abs.Globals] {a : Go.Fn} {b c : Array Go.Value}, (Go.Value.func a b c).cells = #[Go.Value.func a b c]) ∧
  (∀ [Gl : Go.Abs.Globals] (a b : Go.Abs.Bs), Go.Abs.B a ++ Go.Abs.B b = Go.Abs.B (a ++ b)) ∧
  (∀ [Gl : Go.Abs.Globals] (a : Go.Abs.Bs), (Go.Abs.B a).size = List.length a) ∧
  (∀ [Gl : Go.Abs.Globals] (a : Go.Abs.Bs), (Go.Abs.B a).toList = a) ∧
  (∀ [Gl : Go.Abs.Globals] {b : Bool}, (b == Bool.true) = b) ∧
  (∀ [Gl : Go.Abs.Globals] {b : Bool}, (b == Bool.false) = !b) ∧
  (∀ [Gl : Go.Abs.Globals], Go.IntKind.i64.bits = (64 : Nat)) ∧
  (∀ [Gl : Go.Abs.Globals], Go.IntKind.u8.bits = (8 : Nat)) ∧
  (∀ [Gl : Go.Abs.Globals] (n : Int), Go.IntKind.u8.wrap n = n % (256 : Int)) ∧
  (∀ [Gl : Go.Abs.Globals], ↑(0 : Nat) = (0 : Int)) ∧
  (∀ [Gl : Go.Abs.Globals], ↑(1 : Nat) = (1 : Int)) ∧
  (∀ [Gl : Go.Abs.Globals], ↑(2 : Nat) = (2 : Int)) ∧
  (∀ [Gl : Go.Abs.Globals], ↑(3 : Nat) = (3 : Int)) ∧
  (∀ [Gl : Go.Abs.Globals], ↑(4 : Nat) = (4 : Int)) ∧
  (∀ [Gl : Go.Abs.Globals] (l : Go.Abs.Bs), (Go.Abs.B l).data.toList = l) ∧
  (∀ [Gl : Go.Abs.Globals] (l : Go.Abs.Bs) (i j : Nat),   (Go.Abs.B l).extract i j = Go.Abs.B (List.take (j - i) (List.drop i l))) ∧
  (∀ [Gl : Go.Abs.Globals] (l : Go.Abs.Bs), { data := { toList := l } } = Go.Abs.B l) ∧
  (∀ {c : List Go.Value} {T : Go.TypeId}, (Go.Abs.AObj.blk c T).rw = Bool.true) ∧
  (∀ {s : Nat} {c : List Go.Value} {T : Go.TypeId}, (Go.Abs.AObj.row s c T).rw = Bool.true) :=
  ⟨@Go.Abs.cells_int, @Go.Abs.cells_bool, @Go.Abs.cells_string, @Go.Abs.cells_pointer, @Go.Abs.cells_slice, @Go.Abs.cells_agg, @Go.Abs.cells_iface, @Go.Abs.cells_map, @Go.Abs.cells_func, @Go.Abs.B_add, @Go.Abs.B_size, @Go.Abs.B_list, @Go.Abs.beqT, @Go.Abs.beqF, @Go.Abs.bits64, @Go.Abs.bitsu8, @Go.Abs.wrapu8, @Go.Abs.natc0, @Go.Abs.natc1, @Go.Abs.natc2, @Go.Abs.natc3, @Go.Abs.natc4, @Go.Abs.B_data, @Go.Abs.B_extract, @Go.Abs.B_mk, @Go.Abs.rwB1, @Go.Abs.rwB2⟩
end Go.Abs
