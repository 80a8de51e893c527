/-
  From the model's operations to the abstract ones; the quiet ones are sound.
-/
import Derived.Test.YthpclmlfmhjadaaFw2
import Derived.Laws.Entries
import Derived.Laws.Tables
import Derived.Deep.MidRow
import Derived.ChangeKeysEq
set_option linter.unusedSectionVars false
set_option linter.unusedSimpArgs false
set_option linter.unusedVariables false
namespace Go.Abs
variable [Gl : Globals]

def isConst : Operand → Bool | .const _ => true | _ => false
def nilSlice : Value → Bool | .slice none 0 0 => true | _ => false
def isStruct : TypeDesc → Bool | .struct _ | .array _ _ => true | _ => false

def flatL (P : Program) (g : TypeId → Option (List Nat)) : Nat → List Field → Option (List Nat)
  | _, [] => some []
  | off, f :: fs => if f.name ≠ "_" ∧ f.offset = off then
      match g f.type, P.info? f.type with
      | some m, some i => if i.size = m.length ∧ m ≠ [] then (match flatL P g (off + m.length) fs with | some l => some (m ++ l) | none => none) else none
      | _, _ => none
    else none
/-- A type all of whose cells are plain: their kinds, in their row. -/
def flatTy (P : Program) : Nat → TypeId → Option (List Nat)
  | 0, _ => none
  | d + 1, t => match P.underlying t with
    | some (.int _) => some [0]
    | some .bool => some [1]
    | some .string => some [2]
    | some (.struct fs) => if P.stoodInHeld t = true then none else flatL P (flatTy P d) 0 fs.toList
    | _ => none
def flatFs (P : Program) (d : Nat) (off : Nat) (fs : List Field) : Option (List Nat) := flatL P (flatTy P d) off fs

def cop0 (P : Program) (hints : List String) (o : Oper) : Option AOp :=
  match o.op with
  | .move x | .assign x => some (.mv x)
  | .pick c a b => some (.pick c a b)
  | .binOp op t x y _ => match P.underlying t with
    | some (.int _) => some (.bin op x y)
    | some .string => some (.binS op x y)
    | some .bool => match op with | .eql => some (.eqB false x y) | .neq => some (.eqB true x y) | _ => none
    | some (.slice _) => match y with
      | .const (.slice none 0 0) => (match op with | .eql => some (.eqNil false x) | .neq => some (.eqNil true x) | _ => none)
      | _ => none
    | some (.pointer _) => match op with | .eql => some (.eqP false x y) | .neq => some (.eqP true x y) | _ => none
    | some (.struct _) => if P.eqGuardType P.depth t = true then none else match flatTy P 20 t, op with | some ks, .eql => some (.eqA ks false x y) | some ks, .neq => some (.eqA ks true x y) | _, _ => none
    | some (.interface _) => if isConst x || isConst y then (match op with | .eql => some (.eqI false x y) | .neq => some (.eqI true x y) | _ => none) else none
    | _ => none
  | .unOp .neg _ x => some (.neg x)
  | .unOp .not _ x => some (.not x)
  | .convert src dst x => match P.underlying src, P.underlying dst with
    | some (.int _), some (.int k) => some (.cint k x)
    | some .string, some .string => some (.same x)
    | some .string, some (.slice e) => match P.underlying e with | some (.int .u8) => some (.s2b x) | _ => none
    | some (.slice e), some .string => match P.underlying e with | some (.int .u8) => some (.b2s x) | _ => none
    | _, _ => none
  | .makeInterface t x => match P.underlying t with | some (.interface _) => none | some _ => some (.mkI t x) | none => none
  | .makeFunc fn first cap => some (.mkF fn first.toList cap.toList)
  | .fieldAddr s x f => match P.underlying s with
    | some (.struct fs) => match fs[f]? with
      | some fd => match P.info? fd.type with | some i => if i.size ≠ 0 then some (.fa fd.offset x) else none | none => none
      | none => none
    | _ => none
  | .indexAddr t x i => match P.underlying t with
    | some (.slice el) => match P.info? el with | some inf => if inf.size ≠ 0 then some (.ia inf.size x i) else none | none => none
    | some (.array n el) => match P.info? el with | some inf => if inf.size ≠ 0 ∧ 2 ≤ n then some (.iaA n inf.size x i) else none | none => none
    | _ => none
  | .index t x i => match P.underlying t with | some .string => some (.ix x i) | _ => none
  | .slice t x lo hi mx => match P.underlying t with
    | some .string => if mx.isNone then some (.slS x lo hi) else none
    | some (.slice el) => match P.info? el with | some inf => if inf.size ≠ 0 then some (.sl inf.size x lo hi mx) else none | none => none
    | _ => none
  | .lookup t x i ok => match P.underlying t with
    | some (.map key el) => match P.underlying key, P.info? el with
      | some .string, some inf => match inf.zero with
        | some z => if ok = true ∧ atom z = true then some (.lookup z x i) else none
        | none => none
      | _, _ => none
    | _ => none
  | .mapEntry t x i => match P.underlying t with
    | some (.map key el) => match P.underlying key, P.info? el with
      | some .string, some inf => match inf.zero with
        | some z => if atom z = true then some (.mapEntry z x i) else none
        | none => none
      | _, _ => none
    | _ => none
  | .entryStore _ m s x => some (.entryStore m s x)
  | .makeMap _ none => some .mkMap
  | .nilCheck x => some (.nilchk x)
  | .extract x i => some (.ex x i)
  | .load t x => match P.underlying t, P.info? t with | some d, some i => some (.load (isStruct d) i.size x) | _, _ => none
  | .build t parts => match P.underlying t, P.info? t with
    | some (.struct fs), some i => match i.zero with
      | some z => if z.cells.toList.all (fun x => atom x || nilSlice x) = true then match fs.toList.mapM (fun f => (P.info? f.type).map fun i => (f.offset, i.size)) with
        | some places => match parts.toList.mapM (fun (x : Nat × Operand) => (places.toArray[x.1]?).map fun (y : Nat × Nat) => (y.1, y.2, x.2)) with
          | some ps => some (.build z.cells.toList ps)
          | none => none
        | none => none
        else none
      | none => none
    | _, _ => none
  | .call c => match c.callee with
    | .value (.func f) => some (.call f c.args.toList)
    | .value x => some (.callV x c.args.toList)
    | .builtin .len => match c.argTypes[0]?, c.args.toList with
      | some t, [x] => match P.underlying t with | some .string => some (.lenS x) | some (.slice _) => some (.len x) | _ => none
      | _, _ => none
    | .builtin .max => match c.args.toList with | [x, y] => some (.mx x y) | _ => none
    | .builtin .min => match c.args.toList with | [x, y] => some (.mn x y) | [x, y, z] => some (.mn3 x y z) | _ => none
    | .builtin .cap => match c.argTypes[0]?, c.args.toList with
      | some t, [x] => match P.underlying t with | some (.slice _) => some (.cap x) | _ => none
      | _, _ => none
    | .builtin .copy => match c.argTypes.toList, c.args.toList with
      | [t, u], [x, y] => match P.underlying t, P.underlying u with
        | some (.slice el), some (.slice _) => match P.info? el with | some i => if i.size ≠ 0 then some (.copy i.size x y) else none | none => none
        | _, _ => none
      | _, _ => none
    | .builtin .clear => match c.argTypes[0]?, c.args.toList with
      | some t, [x] => match P.underlying t with
        | some (.slice el) => match P.info? el with
          | some i => (match i.zero with | some z => if z.cells.size = i.size ∧ i.size ≠ 0 ∧ z.cells.toList.all (fun x => atom x || nilSlice x) = true then some (.clear i.size z.cells.toList x) else none | none => none)
          | none => none
        | _ => none
      | _, _ => none
    | .builtin .append => match c.argTypes.toList, c.args.toList with
      | [t, u], [x, y] => match P.underlying t, P.underlying u with
        | some (.slice el), some (.slice _) => match P.info? el with | some i => (match i.zero with | some z => if i.size ≠ 0 ∧ z.cells.size = i.size then some (.app (hints.contains o.pos) i.size i.bytes el x y) else none | none => none) | none => none
        | _, _ => none
      | _, _ => none
    | _ => none
  | .alloc t => match P.info? t with | some i => (match i.zero with | some z => if z.cells.toList.all (fun x => atom x || nilSlice x) = true then some (.alloc z.cells.toList t) else none | none => none) | none => none
  | .box t x => some (.box t x)
  | .buildSlice t len parts => match P.underlying t with
    | some (.slice el) => match P.info? el with
      | some i => match i.zero with
        | some z => if i.size ≠ 0 ∧ len * i.size ≤ 16777216 ∧ ((Array.range (len * i.size)).map (z.cells[· % z.cells.size]!)).toList.all (fun x => atom x || nilSlice x) = true ∧ len ≤ 16777216 then some (.bslice len ((Array.range (len * i.size)).map (z.cells[· % z.cells.size]!)).toList (parts.toList.map fun (k, x) => (k * i.size, i.size, x)) el) else none
        | none => none
      | none => none
    | _ => none
  | .store t x y => match P.info? t with | some i => some (.store i.size x y) | none => none
  | .makeSlice t l c => match P.underlying t with
    | some (.slice el) => match P.info? el with
      | some i => match i.zero with
        | some z => if i.size = 1 ∧ atom z = true then some (.mkS i.bytes z el l c)
          else if z.cells.size = i.size ∧ i.size ≠ 0 ∧ z.cells.toList.all (fun x => atom x || nilSlice x) = true then some (.mkSN i.bytes z.cells.toList el l c) else none
        | none => none
      | none => none
    | _ => none
  | _ => none

/-- An operation that is none of these is one that no run may come to. -/
def cop (P : Program) (hints : List String) (o : Oper) : Option AOp := some ((cop0 P hints o).getD .bad)
theorem cop_cases {P : Program} {hints : List String} {o : Oper} {ao : AOp} (h : cop P hints o = some ao) : cop0 P hints o = some ao ∨ ao = .bad := by
  unfold cop at h
  cases hc : cop0 P hints o with
  | none => rw [hc] at h; cases h; exact .inr rfl
  | some a => rw [hc] at h; cases h; exact .inl rfl

section
variable {P : Program} {ρ : Emb} {e : Env} {H : AHeap} {a : Act} {w : World} {Pr : Nat → Prop} {h0 : Keep}

theorem evs_rel (he : ERel ρ e a) : ∀ {l : List Operand} {vs : List Value}, evs e l = some vs → VsRel ρ vs (l.map a.eval)
  | [], vs, h => by simp [evs] at h; subst h; exact .nil
  | x :: r, vs, h => by
    simp only [evs] at h
    split at h
    · rename_i v l hv hl; cases h; exact .cons (he.ev hv) (evs_rel he hl)
    · cases h

theorem ev_int (he : ERel ρ e a) {x : Operand} {k : IntKind} {n : Int} (h : ev e x = some (.int k n)) : a.eval x = .int k n := by
  have := he.ev h; generalize a.eval x = y at *; cases this; rfl
theorem ev_bool (he : ERel ρ e a) {x : Operand} {b : Bool} (h : ev e x = some (.bool b)) : a.eval x = .bool b := by
  have := he.ev h; generalize a.eval x = y at *; cases this; rfl
theorem ev_string (he : ERel ρ e a) {x : Operand} {s : ByteArray} (h : ev e x = some (.string s)) : a.eval x = .string s := by
  have := he.ev h; generalize a.eval x = y at *; cases this; rfl
theorem ev_ptr (he : ERel ρ e a) {x : Operand} {i off : Nat} (h : ev e x = some (.pointer (some ⟨i, off, none⟩))) :
    ∃ L, ρ i = some L ∧ L.abs = false ∧ a.eval x = .pointer (some ⟨L.blk, L.base + off, none⟩) := by
  have := he.ev h; generalize a.eval x = y at *
  cases this with
  | atom h => simp [atom] at h
  | ptr h h' => exact ⟨_, h, h', rfl⟩

/-- The cells of an object, as the world has them. -/
theorem cells_at (hm : Models ρ H Pr h0 w) {i : Nat} {c : List Value} (hc : cellsOf H i = some c) {L : Loc} (hL : ρ i = some L) (hab : L.abs = false) :
    ∃ c' T fr, w.heap[L.blk]? = some (.cells c' T fr) ∧ VsRel ρ c ((c'.toList.drop L.base).take c.length) := by
  unfold cellsOf at hc
  split at hc
  · rename_i o ho
    obtain ⟨L', hL', hok⟩ := hm.ok i o ho
    rw [hL] at hL'; cases hL'
    cases o <;> simp only [AObj.cells] at hc <;> cases hc
    · obtain ⟨_, hb, _, c', hh, hr⟩ := hok
      refine ⟨c', _, _, hh, ?_⟩
      rw [hb, List.drop_zero, hr.length, List.take_length]; exact hr
    · rcases hok with ⟨h, _⟩ | ⟨_, hb, _, c', hh, _, hr⟩
      · rw [h] at hab; cases hab
      · refine ⟨c', _, _, hh, ?_⟩
        rw [hb, List.drop_zero]; exact hr
    · rcases hok with ⟨h, _⟩ | ⟨_, c', T, fr, hh, hr⟩
      · rw [h] at hab; cases hab
      · exact ⟨c', T, fr, hh, hr⟩
    · obtain ⟨_, hb, c', T, fr, hh, hr⟩ := hok
      refine ⟨c', T, fr, hh, ?_⟩
      rw [hb, List.drop_zero]; exact hr
  · cases hc

theorem cell_rel (hm : Models ρ H Pr h0 w) {i : Nat} {c : List Value} (hc : cellsOf H i = some c) {L : Loc} (hL : ρ i = some L) (hab : L.abs = false)
    {j : Nat} {v : Value} (hv : c[j]? = some v) : ∃ v', w.cell? ⟨L.blk, L.base + j, none⟩ = some v' ∧ VRel ρ v v' := by
  obtain ⟨c', T, fr, hh, hr⟩ := cells_at hm hc hL hab
  obtain ⟨v', h1, h2⟩ := hr.get hv
  refine ⟨v', ?_, h2⟩
  have hj : j < c.length := by
    rcases Nat.lt_or_ge j c.length with h | h
    · exact h
    · simp [List.getElem?_eq_none h] at hv
  rw [List.getElem?_take_of_lt hj, List.getElem?_drop] at h1
  simp only [World.cell?, hh]
  simpa using h1

/-- A stretch of an object's cells. -/
theorem range_rel (hm : Models ρ H Pr h0 w) {i : Nat} {c : List Value} (hc : cellsOf H i = some c) {L : Loc} (hL : ρ i = some L) (hab : L.abs = false)
    {off n : Nat} (hn : off + n ≤ c.length) : ∃ l, VsRel ρ ((c.drop off).take n) l ∧ l.length = n ∧ w.rangeAt L.blk (L.base + off) l := by
  obtain ⟨c', T, fr, hh, hr⟩ := cells_at hm hc hL hab
  have h2 := (hr.drop off).take n
  refine ⟨_, h2, ?_, ?_⟩
  · rw [← h2.length]; simp; omega
  · intro j v hv
    have hj : j < n := by
      rcases Nat.lt_or_ge j n with h | h
      · exact h
      · rw [List.getElem?_eq_none (by simp; omega)] at hv; cases hv
    rw [List.getElem?_take_of_lt hj, List.getElem?_drop, List.getElem?_take_of_lt (by omega), List.getElem?_drop] at hv
    simp only [World.cell?, hh]
    have : L.base + off + j = L.base + (off + j) := by omega
    rw [this]
    simpa using hv

theorem run_isAgg {t : TypeId} {d : TypeDesc} (h : P.underlying t = some d) : (isAgg t).run P w = .ok (isStruct d) w := by
  unfold isAgg
  rw [Sem.run_bind, run_underlying h w]
  cases d <;> rfl

theorem run_sizeOf' {t : TypeId} {i : TypeInfo} (h : P.info? t = some i) : (sizeOf t).run P w = .ok i.size w := by
  rw [run_sizeOf (P := P) (w := w) h]; simp [Program.cellsOf, h]

theorem load_sound {t : TypeId} {d : TypeDesc} {inf : TypeInfo} (hu : P.underlying t = some d) (hi : P.info? t = some inf) (hm : Models ρ H Pr h0 w)
    {i off : Nat} {c : List Value} (hc : cellsOf H i = some c) {L : Loc} (hL : ρ i = some L) (hab : L.abs = false) {v : Value}
    (hv : (isStruct d = true ∧ off + inf.size ≤ c.length ∧ v = .agg ⟨(c.drop off).take inf.size⟩) ∨ (isStruct d = false ∧ c[off]? = some v)) :
    ∃ v', (Instr.loadAt t (.pointer (some ⟨L.blk, L.base + off, none⟩))).run P w = .ok v' w ∧ VRel ρ v v' := by
  unfold Instr.loadAt loadVar
  simp only [Instr.sureAddr, Sem.run_bind, Sem.run_pure, Result.andThen_ok, run_isAgg hu]
  rcases hv with ⟨h1, h2, rfl⟩ | ⟨h1, h2⟩
  · obtain ⟨l, hr, hl, hat⟩ := range_rel hm hc hL hab h2
    refine ⟨.agg ⟨l⟩, ?_, .agg hr⟩
    have hload : (loadCells ⟨L.blk, L.base + off, none⟩ inf.size).run P w = .ok l.toArray w := by
      rw [← hl]; exact run_loadCells_list w _ l (fun j v hv => by rw [Addr.add_mid]; exact hat j v hv)
    simp [h1, run_sizeOf' hi, hload]
  · obtain ⟨v', h3, h4⟩ := cell_rel hm hc hL hab h2
    refine ⟨v', ?_, h4⟩
    simp [h1, h3]
end
end Go.Abs
