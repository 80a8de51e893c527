/-
  Bytes; small facts the runs are simplified by.
-/
import Derived.Test.YthpclmlfmhjadaaFw25
import Derived.Laws.BitsLemmas
set_option linter.unusedSectionVars false
set_option linter.unusedSimpArgs false
set_option linter.unusedVariables false
namespace Go.Abs
variable [Gl : Globals]

theorem B_mk (l : Bs) : (⟨⟨l⟩⟩ : ByteArray) = B l := rfl
theorem B_mk' (l : Bs) : (⟨l.toArray⟩ : ByteArray) = B l := rfl
theorem B_add (a b : Bs) : B a ++ B b = B (a ++ b) := by
  apply ByteArray.ext
  rw [ByteArray.data_append]
  exact List.append_toArray a b
theorem B_size (a : Bs) : (B a).size = a.length := rfl
theorem toListLoop (bs : ByteArray) : ∀ (m i : Nat) (r : List UInt8), bs.size - i = m → ByteArray.toList.loop bs i r = r.reverse ++ bs.data.toList.drop i := by
  intro m
  induction m with
  | zero =>
    intro i r h
    unfold ByteArray.toList.loop
    have h1 : bs.data.toList.length = bs.size := Array.length_toList
    rw [if_neg (by omega), List.drop_eq_nil_of_le (by omega), List.append_nil]
  | succ m ih =>
    intro i r h
    unfold ByteArray.toList.loop
    have h1 : bs.data.toList.length = bs.size := Array.length_toList
    have hi : i < bs.size := by omega
    rw [if_pos hi, ih (i + 1) _ (by omega)]
    have h2 : bs.get! i = bs.data.toList[i]'(by omega) := by
      have h3 : i < bs.data.size := hi
      cases bs with
      | mk d => simp [ByteArray.get!]; rw [getElem!_pos d i h3]
    rw [List.drop_eq_getElem_cons (by omega : i < bs.data.toList.length), h2]
    simp
theorem B_list (a : Bs) : (B a).toList = a := by
  unfold ByteArray.toList
  rw [toListLoop (B a) _ 0 [] rfl]; rfl
theorem B_inj {a b : Bs} : B a = B b ↔ a = b := ⟨fun h => by rw [← B_list a, h, B_list], fun h => by rw [h]⟩
theorem B_of (s : ByteArray) : ∃ l, s = B l := ⟨s.data.toList, by cases s; rfl⟩

theorem cells_int {k n} : (Value.int k n).cells = #[Value.int k n] := rfl
theorem cells_bool {b} : (Value.bool b).cells = #[Value.bool b] := rfl
theorem cells_string {b} : (Value.string b).cells = #[Value.string b] := rfl
theorem cells_pointer {b} : (Value.pointer b).cells = #[Value.pointer b] := rfl
theorem cells_slice {a n c} : (Value.slice a n c).cells = #[Value.slice a n c] := rfl
theorem cells_iface {a n} : (Value.iface a n).cells = #[Value.iface a n] := rfl
theorem cells_map {a} : (Value.map a).cells = #[Value.map a] := rfl
theorem cells_func {a b c} : (Value.func a b c).cells = #[Value.func a b c] := rfl
theorem cells_agg {a} : (Value.agg a).cells = a := rfl
theorem beqT {b : Bool} : (b == true) = b := by cases b <;> rfl
theorem beqF {b : Bool} : (b == false) = !b := by cases b <;> rfl
theorem natc0 : ((0 : Nat) : Int) = 0 := rfl
theorem natc1 : ((1 : Nat) : Int) = 1 := rfl
theorem natc2 : ((2 : Nat) : Int) = 2 := rfl
theorem natc3 : ((3 : Nat) : Int) = 3 := rfl
theorem natc4 : ((4 : Nat) : Int) = 4 := rfl
theorem bits64 : IntKind.i64.bits = 64 := rfl
theorem bitsu8 : IntKind.u8.bits = 8 := rfl
theorem wrap64 {n : Int} (h : -9223372036854775808 ≤ n) (h' : n < 9223372036854775808) : IntKind.i64.wrap n = n := by
  rw [IntKind.wrap_i64]; omega
theorem wrapu8 (n : Int) : IntKind.u8.wrap n = n % 256 := IntKind.wrap_u8 n

theorem Ren.mk0 {e1 e : Env} {G : AHeap} (h : renE (emb [] G.length) e1 e) : Ren 0 e1 G e [] := ⟨[], List.nodup_nil, trivial, h, fun i hi => by omega⟩
theorem SW_nil {P : Program} {hints : List String} {N k : Nat} {Q : APost} {e : Env} {H : AHeap} : SW P hints N k [] Q e H = Q .normal e H := by rw [SW]
theorem B_data (l : Bs) : (B l).data.toList = l := rfl
theorem B_extract (l : Bs) (i j : Nat) : (B l).extract i j = B ((l.drop i).take (j - i)) := by
  apply ByteArray.ext
  rw [ByteArray.data_extract]
  apply Array.toList_inj.1
  simp [B, List.extract_eq_take_drop]

/-- All that comes before, of each. -/
def ancs (af : List (List Nat)) : List (List Nat) := af.foldl (fun acc d => acc ++ [(d ++ d.flatMap fun x => acc.getD x []).eraseDups]) []

mutual
theorem ren_id {σ : Nat → Nat} (h : ∀ i, σ i = i) : ∀ v : Value, ren σ v = v
  | .bool b => by simp only [ren]
  | .int k n => by simp only [ren]
  | .float .. => by simp only [ren]
  | .complex .. => by simp only [ren]
  | .string s => by simp only [ren]
  | .nilFunc => by simp only [ren]
  | .nilIface => by simp only [ren]
  | .pointer none => by simp only [ren]
  | .map none => by simp only [ren]
  | .chan none => by simp only [ren]
  | .chan (some c) => by simp only [ren]
  | .pointer (some ⟨i, o, none⟩) => by simp only [ren, h]
  | .pointer (some ⟨i, o, some e⟩) => by simp only [ren]
  | .map (some i) => by simp only [ren, h]
  | .slice (some ⟨i, o, none⟩) n c => by simp only [ren, h]
  | .slice (some ⟨i, o, some e⟩) n c => by simp only [ren]
  | .slice none n c => by simp only [ren]
  | .iface t v => by simp only [ren, ren_id h v]
  | .func f ⟨a⟩ ⟨b⟩ => by simp only [ren, renL_id h a, renL_id h b]
  | .agg ⟨a⟩ => by simp only [ren, renL_id h a]
  | .tuple ⟨a⟩ => by simp only [ren, renL_id h a]
theorem renL_id {σ : Nat → Nat} (h : ∀ i, σ i = i) : ∀ l : List Value, renL σ l = l
  | [] => by simp only [renL]
  | v :: l => by simp only [renL, ren_id h v, renL_id h l]
end
theorem renO_id {σ : Nat → Nat} (h : ∀ i, σ i = i) (o : AObj) : o.ren σ = o := by
  cases o <;> simp only [AObj.ren, renL_id h]
  simp [ren_id h]

def envLe (e1 : Env) : Env → Prop
  | [] => True
  | (t, v) :: e => look e1 t = some v ∧ envLe e1 e

theorem emb_range (n : Nat) (i : Nat) : emb (List.range n) n i = i := by
  rcases Nat.lt_or_ge i n with h | h
  · exact emb_in (by rw [List.getElem?_range h])
  · rw [emb_out (by simpa using h)]; simp; omega

theorem renOk_refl {σ : Nat → Nat} (h : ∀ i, σ i = i) (G : AHeap) : ∀ (H : AHeap) (k : Nat), G.drop k = H → k ≤ G.length → renOk σ G (List.range' k (G.length - k)) H
  | [], k, hd, hk => by
    have : G.length - k = 0 := by have := congrArg List.length hd; simpa using this
    rw [this]; trivial
  | o :: H, k, hd, hk => by
    have hlt : k < G.length := by
      rcases Nat.lt_or_ge k G.length with h | h
      · exact h
      · rw [List.drop_eq_nil_of_le h] at hd; cases hd
    have hg : G[k]? = some o := by
      have := congrArg (·[0]?) hd
      simpa using this
    rw [show G.length - k = (G.length - (k + 1)) + 1 by omega, List.range'_succ]
    refine ⟨?_, renOk_refl h G H (k + 1) (by rw [← List.drop_drop, hd]; rfl) hlt⟩
    split
    · exact hlt
    · rw [renO_id h]; exact hg

/-- The same memory, less of the environment. -/
theorem Ren.sub {k : Nat} {e1 e : Env} {H : AHeap} (h : envLe e1 e) : Ren k e1 H e H := by
  refine ⟨List.range H.length, List.nodup_range, ?_, ?_, fun i _ => emb_range _ i⟩
  · rw [List.range_eq_range']
    have := renOk_refl (σ := emb (List.range H.length) H.length) (emb_range _) H H 0 rfl (Nat.zero_le _)
    simpa [List.range_eq_range'] using this
  · induction e with
    | nil => trivial
    | cons x e ih => exact ⟨by rw [ren_id (emb_range _)]; exact h.1, ih h.2⟩

/-- It holds of the state under other names. -/
def Can (k : Nat) (R : Value → AHeap → Prop) (v : Value) (H : AHeap) : Prop :=
  ∃ (v1 : Value) (H1 : AHeap) (τ : List Nat), τ.Nodup ∧ renOk (emb τ H.length) H τ H1 ∧ v = ren (emb τ H.length) v1 ∧ (∀ i, i < k → emb τ H.length i = i) ∧ R v1 H1
theorem ACalls.can {P : Program} {f : FuncId} {args : List Value} {G : AHeap} {R : Value → AHeap → Prop} (h : ACalls P f args G (Can G.length R)) : ACalls P f args G R := h.ren fun _ _ hc => hc
theorem Can.same {k : Nat} {R : Value → AHeap → Prop} {v : Value} {H : AHeap} (h : R v H) : Can k R v H := by
  refine ⟨v, H, List.range H.length, List.nodup_range, ?_, (ren_id (emb_range _) v).symm, fun i _ => emb_range _ i, h⟩
  rw [List.range_eq_range']
  have := renOk_refl (σ := emb (List.range H.length) H.length) (emb_range _) H H 0 rfl (Nat.zero_le _)
  simpa [List.range_eq_range'] using this
end Go.Abs
