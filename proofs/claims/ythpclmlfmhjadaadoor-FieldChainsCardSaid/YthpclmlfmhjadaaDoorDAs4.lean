import Derived.Test.YthpclmlfmhjadaaDoorDAs3
namespace Go.Proofs.Das
open Go.RowKit Go.Extern.Stop Go.Stop Go.Extern
open Go.Proofs
set_option maxHeartbeats 4000000 in
/-- errors.As at an error that holds one of the program's numbers: what errors.as does, it does. -/
theorem as17 (T : TypeId) (v : Value) (k : Int) (t : Addr) (old : Value) (w : World) (hg : w.cell? ⟨0, 0, none⟩ = some (.iface 65 (.agg #[.pointer (some ⟨1, 41, none⟩)]))) (ht : w.cell? t = some old) (hf : w.frozen? t = false)
    (h21 : ∀ (W : World) (a : Addr), (∀ x : Addr, x.block < w.heap.size → W.cell? x = w.cell? x) → W.cell? a = some (.pointer (some t)) → W.cell? t = some old → W.frozen? t = false →
      Calls Tryd.prog 21 #[.iface T v, .iface 51 (.pointer (some t)), .agg #[.pointer (some ⟨1, 51, none⟩), .pointer (some a), .int .u64 150], .iface 65 (.agg #[.pointer (some ⟨1, 24, none⟩)])] W
        fun e w' => e = .returned (.bool true) ∧ w' = ((W.alloc (.cells #[.pointer (some ⟨1, 51, none⟩), .pointer (some a), .int .u64 150] 55)).alloc (.cells #[.int .i64 k] 24)).setCell t (.int .i64 k)) :
    Calls Tryd.prog 17 #[.iface T v, .iface 51 (.pointer (some t))] w fun e w' => e = .returned (.bool true) ∧
      w' = ((((w.alloc (.cells #[.pointer (some t)] 51)).alloc (.cells #[.pointer (some ⟨1, 51, none⟩), .pointer (some ⟨w.heap.size, 0, none⟩), .int .u64 150] 55)).alloc (.cells #[.pointer (some ⟨1, 51, none⟩), .pointer (some ⟨w.heap.size, 0, none⟩), .int .u64 150] 55)).alloc (.cells #[.int .i64 k] 24)).setCell t (.int .i64 k) := by
  have h18 := @run_callFunc_extern Tryd.prog 18 _ (fun args => ReflectliteValue.unpack (args.getD 0 (.tuple #[]))) Tryd.func18 (by kernel_rfl) (by kernel_rfl) (by kernel_rfl) (by kernel_rfl)
  have h19 := @run_callFunc_extern Tryd.prog 19 _ (ReflectliteValue.methodAny (ReflectliteValue.valueError "reflectlite.Value.Type" 0) (fun t _ _ _ => ReflectliteType.toType t)) Tryd.func19 (by kernel_rfl) (by kernel_rfl) (by kernel_rfl) (by kernel_rfl)
  have h20 := @run_callFunc_extern Tryd.prog 20 _ (ReflectliteValue.method (ReflectliteValue.valueError "reflectlite.Value.IsNil" 0) ReflectliteValue.isNil) Tryd.func20 (by kernel_rfl) (by kernel_rfl) (by kernel_rfl) (by kernel_rfl)
  have h39 := @run_callFunc_extern Tryd.prog 39 _ (ReflectliteType.abiMethod fun t => do pure (.int .u8 (← Rtype.kind t))) Tryd.func39 (by kernel_rfl) (by kernel_rfl) (by kernel_rfl) (by kernel_rfl)
  have h51 := @run_callFunc_extern Tryd.prog 51 _ (ReflectliteType.method ReflectliteType.elem) Tryd.func51 (by kernel_rfl) (by kernel_rfl) (by kernel_rfl) (by kernel_rfl)
  have h52 := @run_callFunc_extern Tryd.prog 52 _ (ReflectliteType.relation "Implements" ReflectliteType.implements_) Tryd.func52 (by kernel_rfl) (by kernel_rfl) (by kernel_rfl) (by kernel_rfl)
  have f18 := valueOf51
  have f19 := type51
  have mK := methodKind
  have mE := methodElem
  have mI := methodImplements
  have k51 := kind51
  have k24 := kind24
  have e51 := elem51
  have i24 := implements24
  have hlt : 0 < w.heap.size := by
    rcases Nat.eq_zero_or_pos w.heap.size with h0 | h
    · simp [World.cell?, h0] at hg
    · exact h
  have tl : t.block < w.heap.size := by
    rcases Nat.lt_or_ge t.block w.heap.size with h | h
    · exact h
    · simp [World.cell?, Array.getElem?_eq_none h] at ht
  have n20 := isNil51 ⟨w.heap.size, 0, none⟩ t ((w.alloc (.cells #[.pointer (some t)] 51)).alloc (.cells #[.pointer (some ⟨1, 51, none⟩), .pointer (some ⟨w.heap.size, 0, none⟩), .int .u64 150] 55)) (by simp)
  have hg2 : ((w.alloc (.cells #[.pointer (some t)] 51)).alloc (.cells #[.pointer (some ⟨1, 51, none⟩), .pointer (some ⟨w.heap.size, 0, none⟩), .int .u64 150] 55)).cell? ⟨0, 0, none⟩ = some (.iface 65 (.agg #[.pointer (some ⟨1, 41, none⟩)])) := by
    rw [World.cell?_alloc_lt _ _ ⟨0, 0, none⟩ (by simp), World.cell?_alloc_lt _ _ ⟨0, 0, none⟩ hlt]; exact hg
  have hc := h21 ((w.alloc (.cells #[.pointer (some t)] 51)).alloc (.cells #[.pointer (some ⟨1, 51, none⟩), .pointer (some ⟨w.heap.size, 0, none⟩), .int .u64 150] 55)) ⟨w.heap.size, 0, none⟩
    (fun x hx => by rw [World.cell?_alloc_lt _ _ x (by simp; omega), World.cell?_alloc_lt _ _ x hx]) (by simp)
    (by rw [World.cell?_alloc_lt _ _ t (by simp; omega), World.cell?_alloc_lt _ _ t tl]; exact ht)
    (by rw [World.frozen?_alloc_old _ _ t (by simp; omega), World.frozen?_alloc_old _ _ t (Nat.ne_of_lt tl)]; exact hf)
  go_enter Tryd.func17, Tryd.ntmps17
  go_wp2_with (first | (go_at_call 21; refine hc.mono ?_; rintro e w' ⟨rfl, rfl⟩))
  go_ret
  exact ⟨rfl, rfl⟩
end Go.Proofs.Das
