/-
  The quiet operations are sound (4): built structs, '==' of structs, interface values.
-/
import Derived.Test.YthpclmlfmhjadaaFw6
import Derived.MapKept
set_option linter.unusedSectionVars false
set_option linter.unusedSimpArgs false
set_option linter.unusedVariables false
namespace Go.Abs
variable [Gl : Globals]
section
variable {P : Program} {ρ : Emb} {e : Env} {H : AHeap} {a : Act} {w : World} {Pr : Nat → Prop} {h0 : Keep}
variable {pos : String} {dst : Option Tmp} {ty : TypeId} {after : Array Edge} {g : Option (Nat × Bool)} {C : Prop} {v : Value}

theorem vcells_one {v : Value} (h : ∀ c, v ≠ .agg c) : v.cells = #[v] := by
  cases v <;> first | rfl | exact absurd rfl (h _)

theorem vcells_rel {v v' : Value} (h : VRel ρ v v') : VsRel ρ v.cells.toList v'.cells.toList := by
  cases h with
  | agg h => exact h
  | atom h => rw [vcells_one (by rintro c rfl; simp [atom] at h)]; exact .cons (.atom h) .nil
  | ptr h h' => exact .cons (.ptr h h') .nil
  | slice a b c d => exact .cons (.slice a b c d) .nil
  | sliceA a b c => exact .cons (.sliceA a b c) .nil
  | sliceH a b c => exact .cons (.sliceH a b c) .nil
  | sliceE a b => exact .cons (.sliceE a b) .nil
  | sliceN => exact .cons .sliceN .nil
  | sliceX => exact .cons .sliceX .nil
  | map a b => exact .cons (.map a b) .nil
  | iface h => exact .cons (.iface h) .nil
  | func h h' => exact .cons (.func h h') .nil
  | tuple h => exact .cons (.tuple h) .nil

/-- Storing a row of values into a row of cells, one by one. -/
theorem foldl_set (vs : List Value) : ∀ (off j : Nat) (cs : Array Value),
    ((vs.zipIdx j).foldl (fun cs (x : Value × Nat) => cs.setIfInBounds (off + x.2) x.1) cs).toList = putCells cs.toList (off + j) vs := by
  induction vs with
  | nil => intro off j cs; simp [putCells]
  | cons v vs ih =>
    intro off j cs
    simp only [List.zipIdx_cons, List.foldl_cons, putCells]
    rw [ih off (j + 1), Array.toList_setIfInBounds]
    rfl

theorem putCells_length (vs : List Value) : ∀ (c : List Value) (off : Nat), (putCells c off vs).length = c.length := by
  induction vs with
  | nil => intro c off; rfl
  | cons v vs ih => intro c off; simp [putCells, ih]

theorem VsRel.putCells {vs vs' : List Value} (h : VsRel ρ vs vs') : ∀ {c c' : List Value} (off : Nat), VsRel ρ c c' → VsRel ρ (putCells c off vs) (Abs.putCells c' off vs') := by
  induction vs generalizing vs' with
  | nil => cases h; intro c c' off hc; exact hc
  | cons v vs ih => cases h with | cons h hs => intro c c' off hc; exact ih hs (off + 1) (hc.set off h)

theorem fill_rel (he : ERel ρ e a) (places : Nat → Option (Nat × Nat)) : ∀ (parts : List (Nat × Operand)) {ps : List (Nat × Nat × Operand)} {qs : List (Nat × Nat × Value)} {c c2 : List Value} {cells : Array Value},
    parts.mapM (fun (x : Nat × Operand) => (places x.1).map fun (y : Nat × Nat) => (y.1, y.2, x.2)) = some ps → evp e ps = some qs → fillC c qs = some c2 → VsRel ρ c cells.toList →
    ∃ cells2, Instr.fill places cells (parts.map fun x => (x.1, a.eval x.2)) = some cells2 ∧ VsRel ρ c2 cells2.toList
  | [], ps, qs, c, c2, cells, h1, h2, h3, hr => by
    simp at h1; subst h1
    simp [evp] at h2; subst h2
    simp [fillC] at h3; subst h3
    exact ⟨cells, rfl, hr⟩
  | (k, x) :: parts, ps, qs, c, c2, cells, h1, h2, h3, hr => by
    simp only [List.mapM_cons, Option.bind_eq_bind, Option.pure_def] at h1
    cases hp : places k with
    | none => simp [hp] at h1
    | some y =>
      obtain ⟨off, size⟩ := y
      cases hm : parts.mapM (fun (x : Nat × Operand) => (places x.1).map fun (y : Nat × Nat) => (y.1, y.2, x.2)) with
      | none => simp [hp, hm] at h1
      | some ps' =>
        simp [hp, hm] at h1; subst h1
        simp only [evp] at h2
        split at h2
        · rename_i u l hu hl; cases h2
          simp only [fillC] at h3
          split at h3
          · rename_i hc
            have hv := vcells_rel (he.ev hu)
            have e1 : (a.eval x).cells.size = size := by have := hv.length; simp at this; omega
            have e2 : cells.size = c.length := by have := hr.length; simp at this; omega
            obtain ⟨cells2, h4, h5⟩ := fill_rel he places parts (cells := ((a.eval x).cells.zipIdx.foldl (fun cs (x : Value × Nat) => cs.setIfInBounds (off + x.2) x.1) cells)) hm hl h3 (by
              have := foldl_set (a.eval x).cells.toList off 0 cells
              rw [← Array.foldl_toList]
              simp only [Array.toList_zipIdx]
              rw [this]
              exact hv.putCells off hr)
            refine ⟨cells2, ?_, h5⟩
            simp only [List.map_cons, Instr.fill, hp]
            rw [if_neg (by simp; omega)]
            exact h4
          · cases h3
        · cases h2

theorem zeros_rel : ∀ {l : List Value}, l.all (fun x => atom x || nilSlice x) = true → VsRel ρ l l
  | [], _ => .nil
  | x :: l, h => by
    simp only [List.all_cons, Bool.and_eq_true, Bool.or_eq_true] at h
    refine .cons ?_ (zeros_rel h.2)
    rcases h.1 with h | h
    · exact .atom h
    · unfold nilSlice at h
      split at h
      · exact .sliceN
      · cases h

theorem build_sound {t : TypeId} {fs : Array Field} {inf : TypeInfo} {z : Value} {places : List (Nat × Nat)} {parts : Array (Nat × Operand)} {ps : List (Nat × Nat × Operand)}
    (hu : P.underlying t = some (.struct fs)) (hi : P.info? t = some inf) (hz : inf.zero = some z) (hzz : z.cells.toList.all (fun x => atom x || nilSlice x) = true)
    (hp : fs.toList.mapM (fun f => (P.info? f.type).map fun i => (f.offset, i.size)) = some places)
    (hps : parts.toList.mapM (fun (x : Nat × Operand) => (places.toArray[x.1]?).map fun (y : Nat × Nat) => (y.1, y.2, x.2)) = some ps)
    (hq : aq (.build z.cells.toList ps) e H = some (C, v)) (he : ERel ρ e a) : Yields' P ρ a w ⟨dst, .build t parts, ty, pos, after, g⟩ v := by
  simp only [aq] at hq
  split at hq
  · rename_i qs hqs
    split at hq
    · rename_i c hc; cases hq
      obtain ⟨cells2, h1, h2⟩ := fill_rel he (places.toArray[·]?) parts.toList (cells := z.cells) hps hqs hc (zeros_rel hzz)
      refine ⟨.agg cells2, ?_, .agg h2⟩
      have hb : P.built t (parts.map fun x => (x.1, a.eval x.2)).toList = some cells2 := by
        simp only [Program.built, hi, hu, hz, hp]
        simpa using h1
      have := run_build (P := P) w t _ _ hb
      simp only [execOp]
      rw [Sem.run_bind, this]
      rfl
    · cases hq
  · cases hq

/-! ### '==' of structs -/
theorem cellsEq_length : ∀ {ks : List Nat} {xs ys : List Value} {r : Bool}, cellsEq ks xs ys = some r → xs.length = ks.length ∧ ys.length = ks.length := by
  intro ks
  induction ks with
  | nil => intro xs ys r h; unfold cellsEq at h; split at h <;> simp_all
  | cons k ks ih =>
    intro xs ys r h
    unfold cellsEq at h
    split at h
    · exact absurd ‹k :: ks = []› (by simp)
    · rename_i heq; cases heq
      split at h
      · split at h
        · rename_i h2; have := ih h2; simp [this]
        · cases h
      · cases h
    · rename_i heq; cases heq
      split at h
      · rename_i h2; have := ih h2; simp [this]
      · cases h
    · rename_i heq; cases heq
      split at h
      · rename_i h2; have := ih h2; simp [this]
      · cases h
    · cases h

theorem cellsEq_nil {xs ys : List Value} {r : Bool} (h : cellsEq [] xs ys = some r) : xs = [] ∧ ys = [] ∧ r = true := by
  have := cellsEq_length h
  simp only [List.length_nil, List.length_eq_zero_iff] at this
  obtain ⟨rfl, rfl⟩ := this
  simp [cellsEq] at h
  exact ⟨rfl, rfl, h⟩

theorem cellsEq_append : ∀ {ks ls : List Nat} {xs ys : List Value} {r : Bool}, cellsEq (ks ++ ls) xs ys = some r →
    ∃ r1 r2, cellsEq ks (xs.take ks.length) (ys.take ks.length) = some r1 ∧ cellsEq ls (xs.drop ks.length) (ys.drop ks.length) = some r2 ∧ r = (r1 && r2) := by
  intro ks
  induction ks with
  | nil => intro ls xs ys r h; exact ⟨true, r, by simp [cellsEq], by simpa using h, by simp⟩
  | cons k ks ih =>
    intro ls xs ys r h
    rw [List.cons_append] at h
    unfold cellsEq at h
    split at h
    · exact absurd ‹k :: (ks ++ ls) = []› (by simp)
    · rename_i heq; cases heq
      split at h
      · rename_i hk; subst hk
        split at h
        · rename_i r' h2; cases h
          obtain ⟨r1, r2, h3, h4, rfl⟩ := ih h2
          exact ⟨_, r2, by simp only [List.length_cons, List.take_succ_cons, cellsEq, h3, if_true], by simpa using h4, (Bool.and_assoc _ _ _).symm⟩
        · cases h
      · cases h
    · rename_i heq; cases heq
      split at h
      · rename_i r' h2; cases h
        obtain ⟨r1, r2, h3, h4, rfl⟩ := ih h2
        exact ⟨_, r2, by simp only [List.length_cons, List.take_succ_cons, cellsEq, h3], by simpa using h4, (Bool.and_assoc _ _ _).symm⟩
      · cases h
    · rename_i heq; cases heq
      split at h
      · rename_i r' h2; cases h
        obtain ⟨r1, r2, h3, h4, rfl⟩ := ih h2
        exact ⟨_, r2, by simp only [List.length_cons, List.take_succ_cons, cellsEq, h3], by simpa using h4, (Bool.and_assoc _ _ _).symm⟩
      · cases h
    · cases h

/-- A value of a plain type, out of its cells. -/
def mkV (d : Option TypeDesc) (xs : List Value) : Value := match d with
  | some (.struct _) => .agg ⟨xs⟩
  | _ => xs.getD 0 undef

def _root_.Go.TypeDesc.isArr : TypeDesc → Bool | .array _ _ => true | _ => false
theorem flatTy_desc {d : Nat} {t : TypeId} {ks : List Nat} (h : flatTy P d t = some ks) : ∃ ds, P.underlying t = some ds ∧ ds.isArr = false := by
  cases d with
  | zero => simp [flatTy] at h
  | succ d =>
    unfold flatTy at h
    split at h <;> first | cases h; done | (rename_i hu; exact ⟨_, hu, rfl⟩)

theorem part_run {t : TypeId} {ds : TypeDesc} {i : TypeInfo} {xs : List Value} {off n : Nat} (hu : P.underlying t = some ds) (hs : ds.isArr = false) (hi : P.info? t = some i) (hn : i.size = n) (hpos : 0 < n) (hl : off + n ≤ xs.length) :
    (part t ⟨xs⟩ off).run P w = .ok (mkV (P.underlying t) ((xs.drop off).take n)) w := by
  unfold part
  rw [Sem.run_bind, run_isAgg hu]
  simp only [Result.andThen_ok]
  rw [hu]
  cases ds
  case struct fs =>
    simp only [isStruct, if_true, Sem.run_bind, run_sizeOf' hi, Result.andThen_ok, Sem.run_pure, mkV, hn]
    congr 3
    simp [List.take_drop]
  case array => cases hs
  all_goals
    simp only [isStruct, Bool.false_eq_true, if_false, mkV]
    have hlt : off < xs.length := by omega
    have : (⟨xs⟩ : Array Value)[off]? = some xs[off] := by simp [hlt]
    rw [this]
    have h2 : ((xs.drop off).take n).getD 0 undef = xs[off] := by
      simp [List.getD, List.getElem?_take_of_lt hpos, hlt]
    rw [h2]; rfl

theorem eqFlat : ∀ (d : Nat), (∀ (t : TypeId) (ks : List Nat) (xs ys : List Value) (r : Bool) (m : Nat), flatTy P d t = some ks → cellsEq ks xs ys = some r →
      (Op.equalIn (d + m) t (mkV (P.underlying t) xs) (mkV (P.underlying t) ys)).run P w = .ok r w) ∧
    (∀ (fs : List Field) (off : Nat) (ks : List Nat) (xs ys : List Value) (r : Bool) (m : Nat), flatFs P d off fs = some ks → cellsEq ks (xs.drop off) (ys.drop off) = some r →
      (Op.eqFields (d + m) ⟨xs⟩ ⟨ys⟩ fs).run P w = .ok r w) := by
  intro d
  induction d with
  | zero =>
    refine ⟨fun t ks xs ys r m h => by simp [flatTy] at h, fun fs => ?_⟩
    cases fs with
    | nil =>
      intro off ks xs ys r m h h2
      simp [flatFs, flatL] at h; subst h
      have := cellsEq_length h2
      simp only [List.length_nil, List.length_eq_zero_iff] at this
      rw [this.1, this.2] at h2
      simp [cellsEq] at h2; subst h2
      simp [Op.eqFields]
    | cons f fs =>
      intro off ks xs ys r m h
      simp [flatFs, flatL, flatTy] at h
  | succ d ih =>
    have first : ∀ (t : TypeId) (ks : List Nat) (xs ys : List Value) (r : Bool) (m : Nat), flatTy P (d + 1) t = some ks → cellsEq ks xs ys = some r →
      (Op.equalIn (d + 1 + m) t (mkV (P.underlying t) xs) (mkV (P.underlying t) ys)).run P w = .ok r w := by
      intro t ks xs ys r m h h2
      rw [show d + 1 + m = (d + m) + 1 by omega]
      unfold flatTy at h
      split at h
      · rename_i k hu; cases h
        unfold cellsEq at h2
        split at h2 <;> first | (cases ‹[0] = []›; done) | skip
        · rename_i heq; cases heq
          split at h2
          · rename_i hk; subst hk
            split at h2
            · rename_i r' h3; cases h2
              obtain ⟨rfl, rfl, rfl⟩ := cellsEq_nil h3
              rw [hu]
              simp only [mkV, List.getD_cons_zero, Bool.and_true]
              exact run_equalIn_int w (d + m) t _ k _ _ hu
            · cases h2
          · cases h2
        · rename_i heq; cases heq
        · rename_i heq; cases heq
        · cases h2
      · rename_i hu; cases h
        unfold cellsEq at h2
        split at h2 <;> first | (cases ‹[1] = []›; done) | skip
        · rename_i heq; cases heq
        · rename_i heq; cases heq
          split at h2
          · rename_i r' h3; cases h2
            obtain ⟨rfl, rfl, rfl⟩ := cellsEq_nil h3
            rw [hu]
            simp only [mkV, List.getD_cons_zero, Bool.and_true]
            exact run_equalIn_bool' w (d + m) t _ _ hu
          · cases h2
        · rename_i heq; cases heq
        · cases h2
      · rename_i hu; cases h
        unfold cellsEq at h2
        split at h2 <;> first | (cases ‹[2] = []›; done) | skip
        · rename_i heq; cases heq
        · rename_i heq; cases heq
        · rename_i heq; cases heq
          split at h2
          · rename_i r' h3; cases h2
            obtain ⟨rfl, rfl, rfl⟩ := cellsEq_nil h3
            rw [hu]
            simp only [mkV, List.getD_cons_zero, Bool.and_true]
            exact run_equalIn_string w (d + m) t _ _ hu
          · cases h2
        · cases h2
      · rename_i fs hu
        split at h
        · cases h
        · rename_i hst
          have hf : P.fieldsOf t = fs := by simp [Program.fieldsOf, hu]
          rw [hu]
          simp only [mkV]
          rw [run_equalIn_struct w (d + m) t ⟨xs⟩ ⟨ys⟩ (by rw [hu, hf]) (by simpa using hst), hf]
          exact ih.2 fs.toList 0 ks xs ys r m h (by simpa using h2)
      · cases h
    refine ⟨first, fun fs => ?_⟩
    induction fs with
    | nil =>
      intro off ks xs ys r m h h2
      simp [flatFs, flatL] at h; subst h
      have := cellsEq_length h2
      simp only [List.length_nil, List.length_eq_zero_iff] at this
      rw [this.1, this.2] at h2
      simp [cellsEq] at h2; subst h2
      simp [Op.eqFields]
    | cons f fs ihf =>
      intro off ks xs ys r m h h2
      unfold flatFs flatL at h
      split at h
      · rename_i hn
        split at h
        · rename_i l i hl hi
          split at h
          · rename_i hlen
            split at h
            · rename_i l2 hl2; cases h
              obtain ⟨r1, r2, h3, h4, rfl⟩ := cellsEq_append h2
              have hx := cellsEq_length h3
              have hpos : 0 < l.length := List.length_pos_iff.2 hlen.2
              have ⟨ds, hds, hsd⟩ := flatTy_desc hl
              have b1 : off + l.length ≤ xs.length := by have := hx.1; simp at this; omega
              have b2 : off + l.length ≤ ys.length := by have := hx.2; simp at this; omega
              have p1 := part_run (w := w) hds hsd hi hlen.1 hpos b1
              have p2 := part_run (w := w) hds hsd hi hlen.1 hpos b2
              have e1 := first f.type l _ _ r1 m hl h3
              simp only [Op.eqFields, hn.1, ne_eq, not_false_eq_true, if_true, Sem.run_bind, hn.2, p1, p2, e1, Result.andThen_ok]
              cases r1
              · simp
              · simp only [Bool.not_true, Bool.false_eq_true, if_false, Bool.true_and]
                exact ihf (off + l.length) l2 xs ys r2 m hl2 (by simpa [List.drop_drop, Nat.add_comm] using h4)
            · cases h
          · cases h
        · cases h
      · cases h

theorem eqA_sound {op : BinOp} {neg : Bool} {t yt : TypeId} {fs : Array Field} {ks : List Nat} {x y : Operand} (ho : (op = .eql ∧ neg = false) ∨ (op = .neq ∧ neg = true))
    (hu : P.underlying t = some (.struct fs)) (hg : P.eqGuardType P.depth t = false) (hf : flatTy P 20 t = some ks)
    (hq : aq (.eqA ks neg x y) e H = some (C, v)) (he : ERel ρ e a) : Yields' P ρ a w ⟨dst, .binOp op t x y yt, ty, pos, after, g⟩ v := by
  simp only [aq] at hq
  split at hq
  · rename_i xa ya hx hy
    split at hq
    · rename_i r hr; cases hq
      have h1 := he.ev hx; have h2 := he.ev hy
      obtain ⟨xl⟩ := xa; obtain ⟨yl⟩ := ya
      generalize hxv : a.eval x = xv at h1; generalize hyv : a.eval y = yv at h2
      have plain : ∀ {ks : List Nat} {l m l' m' : List Value} {r : Bool}, cellsEq ks l m = some r → VsRel ρ l l' → VsRel ρ m m' → l' = l ∧ m' = m := by
        intro ks
        induction ks with
        | nil =>
          intro l m l' m' r h ha hb
          have := cellsEq_length h
          simp only [List.length_nil, List.length_eq_zero_iff] at this
          obtain ⟨rfl, rfl⟩ := this
          cases ha; cases hb; exact ⟨rfl, rfl⟩
        | cons k ks ih =>
          intro l m l' m' r h ha hb
          unfold cellsEq at h
          split at h
          · exact absurd ‹k :: ks = []› (by simp)
          · rename_i heq; cases heq
            split at h
            · split at h
              · rename_i h3
                cases ha with | cons a1 a2 => cases hb with | cons b1 b2 =>
                  cases a1; cases b1
                  obtain ⟨rfl, rfl⟩ := ih h3 a2 b2
                  exact ⟨rfl, rfl⟩
              · cases h
            · cases h
          · rename_i heq; cases heq
            split at h
            · rename_i h3
              cases ha with | cons a1 a2 => cases hb with | cons b1 b2 =>
                cases a1; cases b1
                obtain ⟨rfl, rfl⟩ := ih h3 a2 b2
                exact ⟨rfl, rfl⟩
            · cases h
          · rename_i heq; cases heq
            split at h
            · rename_i h3
              cases ha with | cons a1 a2 => cases hb with | cons b1 b2 =>
                cases a1; cases b1
                obtain ⟨rfl, rfl⟩ := ih h3 a2 b2
                exact ⟨rfl, rfl⟩
            · cases h
          · cases h
      cases h1 with
      | atom h => simp [atom] at h
      | agg h1 =>
        cases h2 with
        | atom h => simp [atom] at h
        | agg h2 =>
          obtain ⟨rfl, rfl⟩ := plain hr h1 h2
          have heq := (eqFlat (P := P) (w := w) 20).1 t ks _ _ r 9980 hf hr
          rw [hu] at heq
          simp only [mkV] at heq
          refine ⟨_, ?_, .atom rfl⟩
          simp only [execOp, hxv, hyv]
          rw [Sem.run_bind, Sem.run_bind, run_eqGuard_agg w op t x y _ _ hg]
          rcases ho with ⟨rfl, rfl⟩ | ⟨rfl, rfl⟩
          · simp only [Result.andThen_ok, run_eql_struct]
            rw [heq]; simp
          · simp only [Result.andThen_ok, run_neq_struct]
            rw [heq]; simp [bne]
    · cases hq
  · cases hq

/-! ### Maps whose keys are strings -/
theorem same_key (s t : Bs) : Instr.sameNow .string (.string (B s)) (.string (B t)) = some (decide (s = t)) := by
  have : ((B s) == (B t)) = decide (s = t) := by
    by_cases h : s = t
    · subst h; rw [(Go.MapKept.bytes_beq _ _).2 rfl]; simp
    · have hne : ¬ (B s == B t) = true := fun he => h (by have := congrArg (fun b => b.data.toList) ((Go.MapKept.bytes_beq _ _).1 he); exact this)
      simp only [h, decide_false]
      simpa using hne
  simp only [Instr.sameNow, this]

theorem find_rel {ρ : Emb} (s : Bs) : ∀ {es : List (Bs × Value)} {es' : List MapEntry} (n : Nat), es.length = es'.length → (∀ (i : Nat) x x', es[i]? = some x → es'[i]? = some x' → x'.key = .string (B x.1) ∧ VRel ρ x.2 x'.val) →
    (mfind s es = none ∧ Instr.findNow .string (.string (B s)) es' n = some none) ∨ ∃ v i v', mfind s es = some v ∧ Instr.findNow .string (.string (B s)) es' n = some (some (i, v')) ∧ VRel ρ v v'
  | [], [], n, _, _ => .inl ⟨rfl, rfl⟩
  | [], _ :: _, _, h, _ => by simp at h
  | _ :: _, [], _, h, _ => by simp at h
  | x :: es, x' :: es', n, h, hg => by
    obtain ⟨h1, h2⟩ := hg 0 x x' rfl rfl
    simp only [mfind, Instr.findNow, h1, same_key]
    by_cases hs : s = x.1
    · simp only [hs, decide_true, if_true]
      exact .inr ⟨_, _, _, rfl, rfl, h2⟩
    · simp only [hs, decide_false, if_false]
      exact find_rel s (n + 1) (by simpa using h) fun i y y' hy hy' => hg (i + 1) y y' (by simpa using hy) (by simpa using hy')

theorem run_zeroValue' {P : Program} {w : World} {t : TypeId} {i : TypeInfo} {z : Value} (hi : P.info? t = some i) (hz : i.zero = some z) : (zeroValue t).run P w = .ok z w := by
  simp [zeroValue, typeInfo, hi, hz]

theorem ev_map (he : ERel ρ e a) {x : Operand} {i : Nat} (h : ev e x = some (.map (some i))) : ∃ L, ρ i = some L ∧ L.abs = false ∧ a.eval x = .map (some L.blk) := by
  have := he.ev h; generalize a.eval x = y at *
  cases this with
  | atom h => simp [atom] at h
  | map h h' => exact ⟨_, h, h', rfl⟩

theorem string_B (s : ByteArray) : s = B s.data.toList := rfl

/-- What an operation on a map finds there. -/
theorem map_find (hm : Models ρ H Pr h0 w) {t key el : TypeId} (hk : P.underlying key = some .string) {j : Nat} {es : List (Bs × Value)} (ho : H[j]? = some (.map es)) {L : Loc} (hL : ρ j = some L) (s : ByteArray) :
    ∃ es', w.heap[L.blk]? = some (.map es' es.length) ∧ MRel ρ es es'.toList ∧ L.abs = false ∧ ((mfind s.data.toList es = none ∧ (Instr.findKey key (.string s) es'.toList).run P w = .ok none w) ∨
      ∃ v i v', mfind s.data.toList es = some v ∧ (Instr.findKey key (.string s) es'.toList).run P w = .ok (some (i, v')) w ∧ VRel ρ v v') := by
  obtain ⟨L', hL', hok⟩ := hm.ok j _ ho
  rw [hL] at hL'; cases hL'
  obtain ⟨hab, es', hh, hr⟩ := hok
  refine ⟨es', hh, hr, hab, ?_⟩
  rcases find_rel (ρ := ρ) s.data.toList 0 hr.1 (fun i x x' hx hx' => let ⟨h1, h2, _⟩ := hr.2 i x x' hx hx'; ⟨h1, h2⟩) with ⟨h1, h2⟩ | ⟨v, i, v', h1, h2, h3⟩
  · exact .inl ⟨h1, Go.MapKept.run_findKey hk h2⟩
  · exact .inr ⟨v, i, v', h1, Go.MapKept.run_findKey hk h2, h3⟩

theorem run_checkStr {key : TypeId} (hk : P.underlying key = some .string) (b : Bool) (s : ByteArray) : (Instr.checkKey b 10000 key (.string s)).run P w = .ok () w := by
  show (Instr.checkKey b (9999 + 1) key (.string s)).run P w = _
  unfold Instr.checkKey
  simp only [Sem.run_bind, run_underlying hk, Result.andThen_ok, Sem.run_pure]

theorem lookup_sound {t key el : TypeId} {inf : TypeInfo} {z : Value} {x y : Operand} (hu : P.underlying t = some (.map key el)) (hk : P.underlying key = some .string) (hi : P.info? el = some inf) (hz : inf.zero = some z) (hat : atom z = true)
    (hm : Models ρ H Pr h0 w) (hq : aq (.lookup z x y) e H = some (C, v)) (he : ERel ρ e a) : Yields' P ρ a w ⟨dst, .lookup t x y true, ty, pos, after, g⟩ v := by
  simp only [aq] at hq
  split at hq
  · rename_i j s hx hy
    split at hq
    · rename_i es ho; cases hq
      obtain ⟨L, hL, _, hxv⟩ := ev_map he hx
      obtain ⟨es', hh, hr, hab, hf⟩ := map_find (P := P) (t := t) (el := el) hm hk ho hL s
      have hg := Go.MapKept.run_getObj_map (P := P) hh
      rcases hf with ⟨h1, h2⟩ | ⟨u, i, u', h1, h2, h3⟩
      · refine ⟨.tuple ⟨[z, .bool false]⟩, ?_, ?_⟩
        · simp [execOp, Instr.lookup, hxv, ev_string he hy, run_underlying hu, hg, run_checkStr hk, h2, run_zeroValue' hi hz]
        · rw [h1]; exact .tuple (.cons (.atom hat) (.cons (.atom rfl) .nil))
      · refine ⟨.tuple ⟨[u', .bool true]⟩, ?_, ?_⟩
        · simp [execOp, Instr.lookup, hxv, ev_string he hy, run_underlying hu, hg, run_checkStr hk, h2]
        · rw [h1]; exact .tuple (.cons h3 (.cons (.atom rfl) .nil))
    · cases hq
  · cases hq

theorem ev_slice (he : ERel ρ e a) {x : Operand} {q : Option Addr} {n c : Nat} (h : ev e x = some (.slice q n c)) : ∃ p c', a.eval x = .slice p n c' ∧ (0 < n → ∃ b, p = some b) ∧ (c ≠ HID → c ≠ ANY → c' = c) := by
  have := he.ev h; generalize a.eval x = y at *
  cases this with
  | atom h => simp [atom] at h
  | slice h1 h2 h3 h4 => exact ⟨_, _, rfl, fun _ => ⟨_, rfl⟩, fun _ _ => rfl⟩
  | sliceH h1 h2 h3 => exact ⟨_, _, rfl, fun _ => ⟨_, rfl⟩, fun h _ => absurd rfl h⟩
  | sliceE h1 h2 => exact ⟨_, _, rfl, fun h => absurd h (by omega), fun h _ => absurd rfl h⟩
  | sliceA h1 h2 h3 => exact ⟨_, _, rfl, fun h => ⟨_, (h2 h).2⟩, fun _ h => absurd rfl h⟩
  | sliceN => exact ⟨_, _, rfl, fun h => absurd h (by omega), fun _ _ => rfl⟩
  | sliceX => exact ⟨_, _, rfl, fun h => absurd h (by omega), fun h _ => absurd rfl h⟩

theorem eqNil_sound {op : BinOp} {neg : Bool} {t yt el : TypeId} {x : Operand} (ho : (op = .eql ∧ neg = false) ∨ (op = .neq ∧ neg = true)) (hu : P.underlying t = some (.slice el))
    (hq : aq (.eqNil neg x) e H = some (C, v)) (he : ERel ρ e a) : Yields' P ρ a w ⟨dst, .binOp op t x (.const (.slice none 0 0)) yt, ty, pos, after, g⟩ v := by
  simp only [aq] at hq
  split at hq
  · rename_i q n c hx
    split at hq
    · cases hq
    · rename_i hn; cases hq
      obtain ⟨p, c', hxv, hb, _⟩ := ev_slice he hx
      obtain ⟨b, rfl⟩ := hb (by omega)
      refine ⟨_, ?_, .atom rfl⟩
      have hy : a.eval (.const (.slice none 0 0)) = .slice none 0 0 := rfl
      simp only [execOp, hxv, hy]
      rw [Sem.run_bind, Sem.run_bind, guard_none rfl]
      have key : (Op.equal t (.slice (some b) n c') (.slice none 0 0)).run P w = .ok false w := by
        show (Op.equalIn (9999 + 1) t _ _).run P w = _
        rw [Op.equalIn, Sem.run_bind, run_underlying hu]; rfl
      rcases ho with ⟨rfl, rfl⟩ | ⟨rfl, rfl⟩
      · rw [show binOp .eql t (.slice (some b) n c') (.slice none 0 0) = (do pure (.bool (← Op.equal t (.slice (some b) n c') (.slice none 0 0))) : Sem Value) from rfl]
        simp [key]
      · rw [show binOp .neq t (.slice (some b) n c') (.slice none 0 0) = (do pure (.bool (!(← Op.equal t (.slice (some b) n c') (.slice none 0 0)))) : Sem Value) from rfl]
        simp [key]
  · cases hq

theorem cap_sound {x : Operand} {t el : TypeId} {c : Call} (hcal : c.callee = .builtin .cap) (hty : c.argTypes[0]? = some t) (hargs : c.args.toList = [x]) (hu : P.underlying t = some (.slice el))
    (hq : aq (.cap x) e H = some (C, v)) (he : ERel ρ e a) : Yields' P ρ a w ⟨dst, .call c, ty, pos, after, g⟩ v := by
  simp only [aq] at hq
  split at hq
  · rename_i q n k hx
    split at hq
    · cases hq
    · rename_i hk; cases hq
      obtain ⟨p, c', hxv, _, hc⟩ := ev_slice he hx
      obtain rfl := hc (fun h => hk (.inl h)) (fun h => hk (.inr h))
      obtain ⟨cal, ⟨args⟩, tys⟩ := c
      simp only at hcal hargs hty; subst hcal; subst hargs
      refine ⟨_, ?_, .atom rfl⟩
      simp [execOp, resolve, invoke, builtin, Builtin.cap_, hty, hxv, run_underlying hu, goInt]
  · cases hq
end
end Go.Abs
