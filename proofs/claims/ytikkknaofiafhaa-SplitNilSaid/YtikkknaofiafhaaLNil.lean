/- SplitNil's walk. -/
import Derived.Test.YtikkknaofiafhaaS11
import Derived.Test.YtikkknaofiafhaaS13
namespace Go.Proofs.Ytikkknaofiafhaa
open Go.RowKit

theorem wpList_loadG {P : Program} {ops : Array Oper} {rest : List Oper} {o : Oper} {a : Act} {w : World} {Q : Exit → Act → World → Prop} {g : Nat} {T : TypeId} {C : Array Value} (hw : Region.wanted o (yielded ops a.tmps) = true) {ty : TypeId} {x : Operand} (ho : o.op = .load ty x) (hx : a.eval x = .pointer (some ⟨g, 0, none⟩)) (hk : Blk w g T C) {d : TypeDesc} (hu : P.underlying ty = some d) (hd : d.isRow = true) (hi : (P.info? ty).map (·.size) = some C.size)
    (h : wpList P ops Q rest (a.put o.dst (.agg C)) w) : wpList P ops Q (o :: rest) a w := by
  unfold wpList
  rw [if_pos hw]
  have := wp_load_mid (P := P) (op := o) (a := a) (w := w) (K := wpList P ops Q rest) (Q := Q) ty x ho g 0 hx C.toList d hk.range hu hd (by simpa using hi)
  exact .inl (this (by simpa using h))

set_option maxRecDepth 100000 in
set_option maxHeartbeats 3200000 in
theorem jobNext_nil (R : Array Value) (s : Int) (w : World) :
    Calls Try.prog 32 #[.pointer none, .agg R, .int .i64 s] w fun e w' => e = .returned (.tuple #[.int .i64 0, .agg zC, .bool false]) ∧ Below w.heap.size w w' := by
  go_enter Try.func32, Try.ntmps32
  go_upto_region 2 with fail
  refine name_world (fun w1 => Below w.heap.size w w1 ∧ Blk w1 (w.heap.size + 1) 60 zC)
    ⟨((Below.refl _ _).alloc (Nat.le_refl _) _).alloc (by simp) _, Blk.new_ (by simp)⟩ ?_
  rintro w1 ⟨hB1, k1⟩
  refine wp_region_split 2 ?_
  simp only [List.take_succ_cons, List.take_zero, List.drop_succ_cons, List.drop_zero]
  go_wp2
  show wpList _ _ _ _ _ _
  refine wpList_storeB' rfl rfl zC rfl rfl k1 rfl Try.infoCmd (cmdCs_one rfl rfl rfl rfl) ?_ rfl
  intro k2
  have lv := k2.loadVar (P := Try.prog) Try.underlying60 rfl Try.infoCmd
  have hB2 := below_setCells (B := w.heap.size) (b := w.heap.size + 1) (by omega) zC.toList 0 hB1
  go_wp2
  refine bodyPost_ret (v := .tuple #[.int .i64 0, .agg zC, .bool false]) ?_ rfl ⟨rfl, hB2⟩
  simp [results, Try.results32, Act.put, Sem.run_bind, Sem.run_pure, asAddr_ok, lv]

theorem got_nil (C : Array Value) (w : World) :
    Calls Try.prog 30 #[.pointer none, .agg C] w fun e w' => e = .returned (.int .i64 2) ∧ Below w.heap.size w w' := by
  go_enter Try.func30, Try.ntmps30
  go_wp2
  go_ret
  exact ⟨rfl, (Below.refl _ _).alloc (Nat.le_refl _) _⟩

set_option maxRecDepth 100000 in
set_option maxHeartbeats 6400000 in
theorem lawNil (s : Int) (C : Array Value) (w : World) (hC : C.size = 15) :
    Calls Try.prog 8 #[.int .i64 s, .agg C] w fun e w' => e = .returned (.bool true) ∧ Below w.heap.size w w' := by
  have HC := Lib.hid hC
  clear hC
  go_enter Try.func8, Try.ntmps8
  go_upto_region 2 with fail
  refine name_world (fun w1 => Below w.heap.size w w1 ∧ Blk w1 w.heap.size 70 C) ⟨(Below.refl _ _).alloc (Nat.le_refl _) _, Blk.new _ _ _⟩ ?_
  rintro w1 ⟨hB1, k1⟩
  refine wp_region_split 13 ?_
  simp only [List.take_succ_cons, List.take_zero, List.drop_succ_cons, List.drop_zero]
  go_wp2_with fail
  refine (jobNext_nil _ s _).mono ?_
  rintro e w2 ⟨rfl, hb2⟩
  have hB2 : Below w.heap.size w w2 := (((hB1.alloc hB1.size _).alloc (by simp; have := hB1.size; omega) _).trans (hb2.mono (by simp; have := hB1.size; omega)))
  have k2 : Blk w2 w.heap.size 70 C := ((k1.alloc _).alloc _).below hb2 (by simp; have := k1.lt; omega)
  go_wp2
  show wpList _ _ _ _ _ _
  refine wpList_storeB' (C := zC) rfl rfl zC rfl rfl (Blk.new_ rfl) rfl Try.infoCmd (cmdCs_one rfl rfl rfl rfl) ?_ rfl
  intro k3
  have hB3 := below_setCells (B := w.heap.size) (a := w) (b := w2.heap.size) hB2.size zC.toList 0 (hB2.alloc hB2.size (.cells zC 60))
  have k4 := far_setCells (g := w.heap.size) (b := w2.heap.size) (by have := k2.lt; omega) zC.toList 0 (k2.alloc (.cells zC 60))
  go_upto_region 3 with fail
  refine name_world (fun w4 => Below w.heap.size w w4 ∧ Blk w4 w.heap.size 70 C ∧ Blk w4 w2.heap.size 60 zC) ⟨hB3, k4, k3⟩ ?_
  clear hB3 k4 k3
  rintro w4 ⟨hB4, k4, m4⟩
  refine wp_region_split 6 ?_
  simp only [List.take_succ_cons, List.take_zero, List.drop_succ_cons, List.drop_zero]
  go_wp2_with fail
  refine (awakeSplit_any _).mono ?_
  rintro e w5 ⟨rfl, hb5⟩
  have hB5 := hB4.trans (hb5.mono hB4.size)
  have k5 := k4.below hb5 k4.lt
  have m5 := m4.below hb5 m4.lt
  go_wp2
  show wpList _ _ _ _ _ _
  refine wpList_loadG rfl rfl rfl m5 Try.underlying60 rfl Try.infoCmd ?_
  simp only [Act.put, List.setIfInBounds_toArray, List.set_cons_succ, List.set_cons_zero]
  refine wpList_split 9 ?_
  simp only [List.take_succ_cons, List.take_zero, List.drop_succ_cons, List.drop_zero]
  go_wp2_with fail
  refine (cmdSame_any (ok := fun _ => True) (ok2 := fun _ => True) 0 0 false ⟨0, 0, false, [], [], [], []⟩ nl nl nl nl nl nl nl nl _ ⟨RSl.nil_ _ _ _, RSl.nil_ _ _ _, RSl.nil_ _ _ _, RSl.nil_ _ _ _⟩ ⟨RSl.nil_ _ _ _, RSl.nil_ _ _ _, RSl.nil_ _ _ _, RSl.nil_ _ _ _⟩).mono ?_
  rintro e w6 ⟨rfl, hb6⟩
  have hB6 := hB5.trans (hb6.mono hB5.size)
  have k6 := k5.below hb6 k5.lt
  go_wp2
  show wpList _ _ _ _ _ _
  refine wpList_loadG rfl rfl rfl k6 Try.underlying70 rfl (by rw [HC.out]; kernel_rfl) ?_
  simp only [Act.put, List.setIfInBounds_toArray, List.set_cons_succ, List.set_cons_zero]
  go_wp2_with fail
  refine (got_nil C _).mono ?_
  rintro e w7 ⟨rfl, hb7⟩
  have hB7 := hB6.trans (hb7.mono hB6.size)
  go_wp2
  go_ret
  exact ⟨rfl, hB7⟩
end Go.Proofs.Ytikkknaofiafhaa
