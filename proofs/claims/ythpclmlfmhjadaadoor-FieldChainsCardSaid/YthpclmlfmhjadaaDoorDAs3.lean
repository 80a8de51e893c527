import Derived.Test.YthpclmlfmhjadaaDoorDAs2
namespace Go.Proofs.Das
open Go.RowKit Go.Extern.Stop Go.Stop Go.Extern
open Go.Proofs
theorem methodUnwrap (p : Value) (w : World) : (Go.method 208 47 p "Unwrap").run Tryd.prog w = .ok (44, p) w := by kernel_rfl
theorem noAs47 (v : Value) (w : World) : (Instr.typeAssert (.iface 47 v) 41 70 true).run Tryd.prog w = .ok (.tuple #[.nilIface, .bool false]) w :=
  run_typeAssert_lacksB Tryd.underlying70 (by kernel_rfl) (by kernel_rfl) v 41 w
theorem hasUn47 (v : Value) (w : World) : (Instr.typeAssert (.iface 47 v) 41 73 true).run Tryd.prog w = .ok (.tuple #[.iface 47 v, .bool true]) w :=
  run_typeAssert_hasB Tryd.underlying73 (by kernel_rfl) v 41 w
theorem unwrap (b : Nat) (v : Value) (w : World) (h : w.cell? ⟨b, 1, none⟩ = some v) :
    Calls Tryd.prog 44 #[.pointer (some ⟨b, 0, none⟩)] w fun e w' => e = .returned v ∧ w' = w := by
  go_enter Tryd.func44, Tryd.ntmps44
  go_wp2
  go_ret
  exact ⟨rfl, rfl⟩

set_option maxHeartbeats 4000000 in
theorem as1 (k : Int) (t a : Addr) (b : Nat) (old : Value) (tv : Value) (w : World) (ha : w.cell? a = some (.pointer (some t))) (ht : w.cell? t = some old) (hf : w.frozen? t = false)
    (hb : w.cell? ⟨b, 1, none⟩ = some (.iface 24 (.int .i64 k))) :
    Calls Tryd.prog 21 #[.iface 47 (.pointer (some ⟨b, 0, none⟩)), tv, .agg #[.pointer (some ⟨1, 51, none⟩), .pointer (some a), .int .u64 150], .iface 65 (.agg #[.pointer (some ⟨1, 24, none⟩)])] w
      fun e w' => e = .returned (.bool true) ∧ w' = ((w.alloc (.cells #[.pointer (some ⟨1, 51, none⟩), .pointer (some a), .int .u64 150] 55)).alloc (.cells #[.int .i64 k] 24)).setCell t (.int .i64 k) := by
  have h18 := @run_callFunc_extern Tryd.prog 18 _ (fun args => ReflectliteValue.unpack (args.getD 0 (.tuple #[]))) Tryd.func18 (by kernel_rfl) (by kernel_rfl) (by kernel_rfl) (by kernel_rfl)
  have h22 := @run_callFunc_extern Tryd.prog 22 _ ReflectliteType.typeOf Tryd.func22 (by kernel_rfl) (by kernel_rfl) (by kernel_rfl) (by kernel_rfl)
  have h49 := @run_callFunc_extern Tryd.prog 49 _ (ReflectliteType.relation "AssignableTo" ReflectliteType.assignableTo) Tryd.func49 (by kernel_rfl) (by kernel_rfl) (by kernel_rfl) (by kernel_rfl)
  have h23 := @run_callFunc_extern Tryd.prog 23 _ (ReflectliteValue.method (ReflectliteValue.valueError "reflectlite.Value.Elem" 0) ReflectliteValue.elem) Tryd.func23 (by kernel_rfl) (by kernel_rfl) (by kernel_rfl) (by kernel_rfl)
  have h24 := @run_callFunc_extern Tryd.prog 24 _ ReflectliteValue.set Tryd.func24 (by kernel_rfl) (by kernel_rfl) (by kernel_rfl) (by kernel_rfl)
  have tO := typeOf24
  have tO2 := typeOf47
  have mA := methodAssignableTo
  have mU := methodUnwrap
  have a24 := assignable24
  have a47 := assignable47
  have v24 := valueOf24
  have nA := noAs47
  have hU := hasUn47
  have al : a.block < w.heap.size := by
    rcases Nat.lt_or_ge a.block w.heap.size with h | h
    · exact h
    · simp [World.cell?, Array.getElem?_eq_none h] at ha
  have tl : t.block < w.heap.size := by
    rcases Nat.lt_or_ge t.block w.heap.size with h | h
    · exact h
    · simp [World.cell?, Array.getElem?_eq_none h] at ht
  have bl : b < w.heap.size := by
    rcases Nat.lt_or_ge b w.heap.size with h | h
    · exact h
    · simp [World.cell?, Array.getElem?_eq_none h] at hb
  have hbA : (w.alloc (.cells #[.pointer (some ⟨1, 51, none⟩), .pointer (some a), .int .u64 150] 55)).cell? ⟨b, 1, none⟩ = some (.iface 24 (.int .i64 k)) := by rw [World.cell?_alloc_lt _ _ ⟨b, 1, none⟩ bl]; exact hb
  have el := elemV51 a t (w.alloc (.cells #[.pointer (some ⟨1, 51, none⟩), .pointer (some a), .int .u64 150] 55)) (by rw [World.cell?_alloc_lt _ _ a al]; exact ha)
  have st := set24 t ⟨w.heap.size + 1, 0, none⟩ k old ((w.alloc (.cells #[.pointer (some ⟨1, 51, none⟩), .pointer (some a), .int .u64 150] 55)).alloc (.cells #[.int .i64 k] 24))
    (by rw [World.cell?_alloc_at _ _ _ _ (by simp)]; rfl)
    (by rw [World.cell?_alloc_lt _ _ t (by simp; omega), World.cell?_alloc_lt _ _ t tl]; exact ht)
    (by rw [World.frozen?_alloc_old _ _ t (by simp; omega), World.frozen?_alloc_old _ _ t (Nat.ne_of_lt tl)]; exact hf)
  go_enter Tryd.func21, Tryd.ntmps21
  go_wp2
  refine wp_loop_rounds 2 ?_
  rw [rounds_succ]
  go_wp2_with (first | (go_at_call 44; refine (unwrap b _ _ hbA).mono ?_; rintro e w' ⟨rfl, rfl⟩))
  rw [rounds_succ]
  go_wp2
  go_ret
  exact ⟨rfl, rfl⟩

set_option maxHeartbeats 4000000 in
theorem as2 (k : Int) (t a : Addr) (b c : Nat) (old : Value) (tv : Value) (w : World) (ha : w.cell? a = some (.pointer (some t))) (ht : w.cell? t = some old) (hf : w.frozen? t = false)
    (hb : w.cell? ⟨b, 1, none⟩ = some (.iface 47 (.pointer (some ⟨c, 0, none⟩)))) (hc : w.cell? ⟨c, 1, none⟩ = some (.iface 24 (.int .i64 k))) :
    Calls Tryd.prog 21 #[.iface 47 (.pointer (some ⟨b, 0, none⟩)), tv, .agg #[.pointer (some ⟨1, 51, none⟩), .pointer (some a), .int .u64 150], .iface 65 (.agg #[.pointer (some ⟨1, 24, none⟩)])] w
      fun e w' => e = .returned (.bool true) ∧ w' = ((w.alloc (.cells #[.pointer (some ⟨1, 51, none⟩), .pointer (some a), .int .u64 150] 55)).alloc (.cells #[.int .i64 k] 24)).setCell t (.int .i64 k) := by
  have h18 := @run_callFunc_extern Tryd.prog 18 _ (fun args => ReflectliteValue.unpack (args.getD 0 (.tuple #[]))) Tryd.func18 (by kernel_rfl) (by kernel_rfl) (by kernel_rfl) (by kernel_rfl)
  have h22 := @run_callFunc_extern Tryd.prog 22 _ ReflectliteType.typeOf Tryd.func22 (by kernel_rfl) (by kernel_rfl) (by kernel_rfl) (by kernel_rfl)
  have h49 := @run_callFunc_extern Tryd.prog 49 _ (ReflectliteType.relation "AssignableTo" ReflectliteType.assignableTo) Tryd.func49 (by kernel_rfl) (by kernel_rfl) (by kernel_rfl) (by kernel_rfl)
  have h23 := @run_callFunc_extern Tryd.prog 23 _ (ReflectliteValue.method (ReflectliteValue.valueError "reflectlite.Value.Elem" 0) ReflectliteValue.elem) Tryd.func23 (by kernel_rfl) (by kernel_rfl) (by kernel_rfl) (by kernel_rfl)
  have h24 := @run_callFunc_extern Tryd.prog 24 _ ReflectliteValue.set Tryd.func24 (by kernel_rfl) (by kernel_rfl) (by kernel_rfl) (by kernel_rfl)
  have tO := typeOf24
  have tO2 := typeOf47
  have mA := methodAssignableTo
  have mU := methodUnwrap
  have a24 := assignable24
  have a47 := assignable47
  have v24 := valueOf24
  have nA := noAs47
  have hU := hasUn47
  have al : a.block < w.heap.size := by
    rcases Nat.lt_or_ge a.block w.heap.size with h | h
    · exact h
    · simp [World.cell?, Array.getElem?_eq_none h] at ha
  have tl : t.block < w.heap.size := by
    rcases Nat.lt_or_ge t.block w.heap.size with h | h
    · exact h
    · simp [World.cell?, Array.getElem?_eq_none h] at ht
  have bl : b < w.heap.size := by
    rcases Nat.lt_or_ge b w.heap.size with h | h
    · exact h
    · simp [World.cell?, Array.getElem?_eq_none h] at hb
  have cl : c < w.heap.size := by
    rcases Nat.lt_or_ge c w.heap.size with h | h
    · exact h
    · simp [World.cell?, Array.getElem?_eq_none h] at hc
  have hcA : (w.alloc (.cells #[.pointer (some ⟨1, 51, none⟩), .pointer (some a), .int .u64 150] 55)).cell? ⟨c, 1, none⟩ = some (.iface 24 (.int .i64 k)) := by rw [World.cell?_alloc_lt _ _ ⟨c, 1, none⟩ cl]; exact hc
  have hbA : (w.alloc (.cells #[.pointer (some ⟨1, 51, none⟩), .pointer (some a), .int .u64 150] 55)).cell? ⟨b, 1, none⟩ = some (.iface 47 (.pointer (some ⟨c, 0, none⟩))) := by rw [World.cell?_alloc_lt _ _ ⟨b, 1, none⟩ bl]; exact hb
  have el := elemV51 a t (w.alloc (.cells #[.pointer (some ⟨1, 51, none⟩), .pointer (some a), .int .u64 150] 55)) (by rw [World.cell?_alloc_lt _ _ a al]; exact ha)
  have st := set24 t ⟨w.heap.size + 1, 0, none⟩ k old ((w.alloc (.cells #[.pointer (some ⟨1, 51, none⟩), .pointer (some a), .int .u64 150] 55)).alloc (.cells #[.int .i64 k] 24))
    (by rw [World.cell?_alloc_at _ _ _ _ (by simp)]; rfl)
    (by rw [World.cell?_alloc_lt _ _ t (by simp; omega), World.cell?_alloc_lt _ _ t tl]; exact ht)
    (by rw [World.frozen?_alloc_old _ _ t (by simp; omega), World.frozen?_alloc_old _ _ t (Nat.ne_of_lt tl)]; exact hf)
  go_enter Tryd.func21, Tryd.ntmps21
  go_wp2
  refine wp_loop_rounds 3 ?_
  rw [rounds_succ]
  go_wp2_with (first | (go_at_call 44; refine (unwrap b _ _ hbA).mono ?_; rintro e w' ⟨rfl, rfl⟩))
  rw [rounds_succ]
  go_wp2_with (first | (go_at_call 44; refine (unwrap c _ _ hcA).mono ?_; rintro e w' ⟨rfl, rfl⟩))
  rw [rounds_succ]
  go_wp2
  go_ret
  exact ⟨rfl, rfl⟩
end Go.Proofs.Das
