/- Contracts: errors.as, errors.As at a fault of a fault of a code. -/
import Derived.Test.YthjicmdmhmffmaaDoorD1
namespace Go.Proofs.YthjicmdmhmffmaaDoor
open Go.RowKit Go.Extern.Stop Go.Stop Go.Extern

theorem Tryd.methodKind (h : Value) (w : World) : (Go.method 247 104 (.agg #[h]) "Kind").run Tryd.prog w = .ok (69, h) w := by kernel_rfl
theorem Tryd.methodElem (h : Value) (w : World) : (Go.method 247 104 (.agg #[h]) "Elem").run Tryd.prog w = .ok (81, .agg #[h]) w := by kernel_rfl
theorem Tryd.methodImplements (h : Value) (w : World) : (Go.method 247 104 (.agg #[h]) "Implements").run Tryd.prog w = .ok (82, .agg #[h]) w := by kernel_rfl
theorem Tryd.methodAssignableTo (h : Value) (w : World) : (Go.method 247 104 (.agg #[h]) "AssignableTo").run Tryd.prog w = .ok (79, .agg #[h]) w := by kernel_rfl
theorem Tryd.methodUnwrap (h : Value) (w : World) : (Go.method 247 83 h "Unwrap").run Tryd.prog w = .ok (74, h) w := by kernel_rfl

set_option maxHeartbeats 4000000 in
theorem as_chain (g2 g1 : Nat) (x : Int) (s2 s1 old : Value) (t a : Addr) (w : World) (h2 : w.cell? ⟨g2, 1, none⟩ = some (.iface 83 (.pointer (some ⟨g1, 0, none⟩)))) (h1 : w.cell? ⟨g1, 1, none⟩ = some (.iface 44 (.int .i64 x)))
    (ha : w.cell? a = some (.pointer (some t))) (ht0 : w.cell? t = some old) (hf0 : w.frozen? t = false) :
    Calls Tryd.prog 51 #[.iface 83 (.pointer (some ⟨g2, 0, none⟩)), .iface 82 (.pointer (some t)), .agg #[.pointer (some ⟨1, 82, none⟩), .pointer (some a), .int .u64 150], .iface 104 (.agg #[.pointer (some ⟨1, 44, none⟩)])] w
      fun e w' => e = .returned (.bool true) ∧ w' = ((w.alloc (.cells #[.pointer (some ⟨1, 82, none⟩), .pointer (some a), .int .u64 150] 94)).alloc (.cells #[.int .i64 x] 44)).setCell t (.int .i64 x) := by
  have h48 := @run_callFunc_extern Tryd.prog 48 _ (fun args => ReflectliteValue.unpack (args.getD 0 (.tuple #[]))) Tryd.func48 (by kernel_rfl) (by kernel_rfl) (by kernel_rfl) (by kernel_rfl)
  have h52 := @run_callFunc_extern Tryd.prog 52 _ ReflectliteType.typeOf Tryd.func52 (by kernel_rfl) (by kernel_rfl) (by kernel_rfl) (by kernel_rfl)
  have h79 := @run_callFunc_extern Tryd.prog 79 _ (ReflectliteType.relation "AssignableTo" ReflectliteType.assignableTo) Tryd.func79 (by kernel_rfl) (by kernel_rfl) (by kernel_rfl) (by kernel_rfl)
  have h53 := @run_callFunc_extern Tryd.prog 53 _ (ReflectliteValue.method (ReflectliteValue.valueError "reflectlite.Value.Elem" 0) ReflectliteValue.elem) Tryd.func53 (by kernel_rfl) (by kernel_rfl) (by kernel_rfl) (by kernel_rfl)
  have h54 := @run_callFunc_extern Tryd.prog 54 _ ReflectliteValue.set Tryd.func54 (by kernel_rfl) (by kernel_rfl) (by kernel_rfl) (by kernel_rfl)
  have tO := Tryd.typeOf83
  have tO2 := Tryd.typeOf44
  have mA := Tryd.methodAssignableTo
  have mU := Tryd.methodUnwrap
  have a83 := Tryd.assignable83
  have a44 := Tryd.assignable44
  have nA := Tryd.noAs83
  have uW := Tryd.unwraps83
  have v44 := Tryd.valueOf44
  have htl := World.block_lt_of_cell? w t ht0
  have hal := World.block_lt_of_cell? w a ha
  have hA := alloc1 ha
  have el := Tryd.elemV82 a t (w.alloc (.cells #[.pointer (some ⟨1, 82, none⟩), .pointer (some a), .int .u64 150] 94)) (hA _)
  have st := Tryd.set44 t ⟨w.heap.size + 1, 0, none⟩ x old ((w.alloc (.cells #[.pointer (some ⟨1, 82, none⟩), .pointer (some a), .int .u64 150] 94)).alloc (.cells #[.int .i64 x] 44))
    (by rw [World.cell?_alloc_at _ _ _ _ (by simp)]; rfl) (alloc2 ht0 _ _) (by rw [World.frozen?_alloc_old _ _ t (by simp; omega), World.frozen?_alloc_old _ _ t (Nat.ne_of_lt htl)]; exact hf0)
  have k2 := alloc1 h2 (.cells #[.pointer (some ⟨1, 82, none⟩), .pointer (some a), .int .u64 150] 94)
  have k1 := alloc1 h1 (.cells #[.pointer (some ⟨1, 82, none⟩), .pointer (some a), .int .u64 150] 94)
  go_enter Tryd.func51, Tryd.ntmps51
  go_wp2
  refine wp_loop_rounds 3 ?_
  rw [rounds_succ]
  go_wp2_with (go_at_call 74; refine (unwrap_any g2 s2 _ _ k2).mono ?_; rintro e w' ⟨rfl, rfl⟩)
  rw [rounds_succ]
  go_wp2_with (go_at_call 74; refine (unwrap_any g1 s1 _ _ k1).mono ?_; rintro e w' ⟨rfl, rfl⟩)
  rw [rounds_succ]
  go_wp2
  go_ret
  exact ⟨rfl, rfl⟩

set_option maxHeartbeats 4000000 in
theorem as_fault (g2 g1 : Nat) (x : Int) (s2 s1 old : Value) (t : Addr) (w : World) (hg : w.cell? ⟨0, 0, none⟩ = some (.iface 104 (.agg #[.pointer (some ⟨1, 65, none⟩)]))) (h2 : w.cell? ⟨g2, 1, none⟩ = some (.iface 83 (.pointer (some ⟨g1, 0, none⟩)))) (h1 : w.cell? ⟨g1, 1, none⟩ = some (.iface 44 (.int .i64 x)))
    (ht0 : w.cell? t = some old) (hf0 : w.frozen? t = false) :
    Calls Tryd.prog 44 #[.iface 83 (.pointer (some ⟨g2, 0, none⟩)), .iface 82 (.pointer (some t))] w
      fun e w' => e = .returned (.bool true) ∧ w' = ((((w.alloc (.cells #[.pointer (some t)] 82)).alloc (.cells #[.pointer (some ⟨1, 82, none⟩), .pointer (some ⟨w.heap.size, 0, none⟩), .int .u64 150] 94)).alloc (.cells #[.pointer (some ⟨1, 82, none⟩), .pointer (some ⟨w.heap.size, 0, none⟩), .int .u64 150] 94)).alloc (.cells #[.int .i64 x] 44)).setCell t (.int .i64 x) := by
  have h48 := @run_callFunc_extern Tryd.prog 48 _ (fun args => ReflectliteValue.unpack (args.getD 0 (.tuple #[]))) Tryd.func48 (by kernel_rfl) (by kernel_rfl) (by kernel_rfl) (by kernel_rfl)
  have h49 := @run_callFunc_extern Tryd.prog 49 _ (ReflectliteValue.methodAny (ReflectliteValue.valueError "reflectlite.Value.Type" 0) (fun t _ _ _ => ReflectliteType.toType t)) Tryd.func49 (by kernel_rfl) (by kernel_rfl) (by kernel_rfl) (by kernel_rfl)
  have h50 := @run_callFunc_extern Tryd.prog 50 _ (ReflectliteValue.method (ReflectliteValue.valueError "reflectlite.Value.IsNil" 0) ReflectliteValue.isNil) Tryd.func50 (by kernel_rfl) (by kernel_rfl) (by kernel_rfl) (by kernel_rfl)
  have h69 := @run_callFunc_extern Tryd.prog 69 _ (ReflectliteType.abiMethod fun t => do pure (.int .u8 (← Rtype.kind t))) Tryd.func69 (by kernel_rfl) (by kernel_rfl) (by kernel_rfl) (by kernel_rfl)
  have h81 := @run_callFunc_extern Tryd.prog 81 _ (ReflectliteType.method ReflectliteType.elem) Tryd.func81 (by kernel_rfl) (by kernel_rfl) (by kernel_rfl) (by kernel_rfl)
  have h82 := @run_callFunc_extern Tryd.prog 82 _ (ReflectliteType.relation "Implements" ReflectliteType.implements_) Tryd.func82 (by kernel_rfl) (by kernel_rfl) (by kernel_rfl) (by kernel_rfl)
  have f48 := Tryd.valueOf82
  have f49 := Tryd.type82
  have mK := Tryd.methodKind
  have mE := Tryd.methodElem
  have mI := Tryd.methodImplements
  have k82 := Tryd.kind82
  have k44 := Tryd.kind44
  have e82 := Tryd.elem82
  have i44 := Tryd.implements44
  have hg2 := alloc2 hg (.cells #[.pointer (some t)] 82) (.cells #[.pointer (some ⟨1, 82, none⟩), .pointer (some ⟨w.heap.size, 0, none⟩), .int .u64 150] 94)
  have n8 := Tryd.isNil82 ⟨w.heap.size, 0, none⟩ t ((w.alloc (.cells #[.pointer (some t)] 82)).alloc (.cells #[.pointer (some ⟨1, 82, none⟩), .pointer (some ⟨w.heap.size, 0, none⟩), .int .u64 150] 94)) (by simp)
  have j2 := alloc2 h2 (.cells #[.pointer (some t)] 82) (.cells #[.pointer (some ⟨1, 82, none⟩), .pointer (some ⟨w.heap.size, 0, none⟩), .int .u64 150] 94)
  have j1 := alloc2 h1 (.cells #[.pointer (some t)] 82) (.cells #[.pointer (some ⟨1, 82, none⟩), .pointer (some ⟨w.heap.size, 0, none⟩), .int .u64 150] 94)
  have jt := alloc2 ht0 (.cells #[.pointer (some t)] 82) (.cells #[.pointer (some ⟨1, 82, none⟩), .pointer (some ⟨w.heap.size, 0, none⟩), .int .u64 150] 94)
  have htl := World.block_lt_of_cell? w t ht0
  have jf : ((w.alloc (.cells #[.pointer (some t)] 82)).alloc (.cells #[.pointer (some ⟨1, 82, none⟩), .pointer (some ⟨w.heap.size, 0, none⟩), .int .u64 150] 94)).frozen? t = false := by
    rw [World.frozen?_alloc_old _ _ t (by simp; omega), World.frozen?_alloc_old _ _ t (Nat.ne_of_lt htl)]; exact hf0
  go_enter Tryd.func44, Tryd.ntmps44
  go_wp2_with (go_at_call 51; refine (as_chain g2 g1 x s2 s1 old t ⟨w.heap.size, 0, none⟩ _ j2 j1 (by simp) jt jf).mono ?_; rintro e w' ⟨rfl, rfl⟩)
  go_ret
  exact ⟨rfl, rfl⟩
theorem as_below {w : World} (t : Addr) (x : Int) (o1 o2 o3 o4 : Obj) {B : Nat} (hB : B ≤ w.heap.size) (ht : B ≤ t.block) : Below B w (((((w.alloc o1).alloc o2).alloc o3).alloc o4).setCell t (.int .i64 x)) :=
  (((((Below.refl _ _).alloc hB _).alloc (by simp; omega) _).alloc (by simp; omega) _).alloc (by simp; omega) _).setCell ht _

/-- A code's fault, and what it tells. -/
theorem code_nil (w : World) : Calls Tryd.prog 27 #[.nilIface] w fun e w' => e = .returned (.int .i64 0) ∧ w' = w := by
  go_enter Tryd.func27, Tryd.ntmps27
  go_wp2
  go_ret
  exact ⟨rfl, rfl⟩
set_option maxHeartbeats 4000000 in
theorem code_fault (g2 g1 : Nat) (x : Int) (s2 s1 : Value) (w : World) (hg : w.cell? ⟨0, 0, none⟩ = some (.iface 104 (.agg #[.pointer (some ⟨1, 65, none⟩)]))) (h2 : w.cell? ⟨g2, 1, none⟩ = some (.iface 83 (.pointer (some ⟨g1, 0, none⟩)))) (h1 : w.cell? ⟨g1, 1, none⟩ = some (.iface 44 (.int .i64 x))) :
    Calls Tryd.prog 27 #[.iface 83 (.pointer (some ⟨g2, 0, none⟩))] w fun e w' => e = .returned (.int .i64 x) ∧ Below w.heap.size w w' := by
  have j0 := alloc1 hg (.cells #[.int .i64 0] 44)
  have j2 := alloc1 h2 (.cells #[.int .i64 0] 44)
  have j1 := alloc1 h1 (.cells #[.int .i64 0] 44)
  go_enter Tryd.func27, Tryd.ntmps27
  go_wp2_with (go_at_call 44; refine (as_fault g2 g1 x s2 s1 (.int .i64 0) ⟨w.heap.size, 0, none⟩ _ j0 j2 j1 (by simp) (by simp)).mono ?_; rintro e w' ⟨rfl, rfl⟩)
  go_ret
  exact ⟨rfl, (((((Below.refl w.heap.size w).alloc (Nat.le_refl _) _).alloc (by simp) _).alloc (by simp; omega) _).alloc (by simp; omega) _).alloc (by simp; omega) _⟩
theorem wrap_nil (s : Value) (w : World) : Calls Tryd.prog 28 #[.nilIface, s] w fun e w' => e = .returned .nilIface ∧ w' = w := by
  go_enter Tryd.func28, Tryd.ntmps28
  go_wp2
  go_ret
  exact ⟨rfl, rfl⟩
theorem wrap_fault (g1 : Nat) (s : ByteArray) (w : World) : Calls Tryd.prog 28 #[.iface 83 (.pointer (some ⟨g1, 0, none⟩)), .string s] w fun e w' => e = .returned (.iface 83 (.pointer (some ⟨w.heap.size, 0, none⟩))) ∧ w' = w.alloc (.cells #[.string s, .iface 83 (.pointer (some ⟨g1, 0, none⟩))] 85) := by
  go_enter Tryd.func28, Tryd.ntmps28
  go_wp2
  go_ret
  exact ⟨rfl, rfl⟩
theorem new_fault (x : Int) (s : ByteArray) (w : World) (hx : (x == 0) = false) : Calls Tryd.prog 41 #[.int .i64 x, .string s] w fun e w' => e = .returned (.iface 83 (.pointer (some ⟨w.heap.size, 0, none⟩))) ∧ w' = w.alloc (.cells #[.string s, .iface 44 (.int .i64 x)] 85) := by
  go_enter Tryd.func41, Tryd.ntmps41
  go_wp2
  go_ret
  exact ⟨rfl, rfl⟩
end Go.Proofs.YthjicmdmhmffmaaDoor
