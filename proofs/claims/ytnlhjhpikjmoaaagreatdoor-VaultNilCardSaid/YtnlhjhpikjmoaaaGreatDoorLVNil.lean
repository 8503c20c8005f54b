/- The walk of the law VaultNil. -/
import Derived.Test.YtnlhjhpikjmoaaaGreatDoorB17
namespace Go.Proofs.YtnlhjhpikjmoaaaGreatDoor
open Go.RowKit

theorem vopen_nil (w : World) : Calls Tryz.prog 14 #[.pointer none] w fun e w' => (∃ v, e = .returned (.tuple #[.pointer none, v]) ∧ ErrV 2 w' v 2) ∧ Below w.heap.size w w' := by
  go_enter Tryz.func14, Tryz.ntmps14
  go_wp2_with fail
  refine (open_nil w).mono ?_
  rintro e w1 ⟨rfl, hB1⟩
  go_wp2_with fail
  refine (as_any 2 (by decide) w1).mono ?_
  rintro e w2 ⟨⟨v, rfl, hv⟩, hB2⟩
  have HV := Lib.hid hv
  clear hv
  go_wp2
  refine bodyPost_ret (v := .tuple #[.pointer none, v]) ?_ rfl ⟨⟨v, rfl, HV.out⟩, hB1.trans (hB2.mono hB1.size)⟩
  simp [results, Tryz.results14, Act.put, Sem.run_bind, Sem.run_pure, asAddr_ok]
theorem vput_nil (u : Array Value) (w : World) : Calls Tryz.prog 16 #[.pointer none, .agg u] w fun e w' => (∃ v, e = .returned v ∧ ErrV 2 w' v 2) ∧ Below w.heap.size w w' := by
  go_enter Tryz.func16, Tryz.ntmps16
  go_upto_region 2 with fail
  refine name_world (fun w1 => Below w.heap.size w w1) ((Below.refl _ _).alloc (Nat.le_refl _) _) ?_
  rintro w1 hB1
  go_wp2_with fail
  refine (as_any 2 (by decide) w1).mono ?_
  rintro e w2 ⟨⟨v, rfl, hv⟩, hB2⟩
  have HV := Lib.hid hv
  clear hv
  go_wp2
  go_ret
  exact ⟨⟨_, rfl, HV.out⟩, hB1.trans (hB2.mono hB1.size)⟩
theorem vlog_nil (w : World) : Calls Tryz.prog 17 #[.pointer none] w fun e w' => e = .returned (.agg (vlCs VLog.zero (.slice none 0 0) (.slice none 0 0))) ∧ Below w.heap.size w w' := by
  go_enter Tryz.func17, Tryz.ntmps17
  go_upto_region 2 with fail
  refine wp_region_split 1 ?_
  simp only [List.take_succ_cons, List.take_zero, List.drop_succ_cons, List.drop_zero]
  go_wp2
  show wpList _ _ _ _ _ _
  have kZ : Blk (w.alloc (.cells #[.int .u64 0, .int .i64 0, .int .u64 0, .int .u64 0, .slice none 0 0, .slice none 0 0] 30)) w.heap.size 30 #[.int .u64 0, .int .i64 0, .int .u64 0, .int .u64 0, .slice none 0 0, .slice none 0 0] := Blk.new _ _ _
  refine wpList_st rfl rfl (vlCs VLog.zero (.slice none 0 0) (.slice none 0 0)) rfl rfl kZ rfl Tryz.infoLog (vl_all _ _ _ _ _ _ _) ?_ rfl
  intro k9
  have hK9 : Below w.heap.size w (World.setCells (w.alloc (.cells #[.int .u64 0, .int .i64 0, .int .u64 0, .int .u64 0, .slice none 0 0, .slice none 0 0] 30)) w.heap.size 0 (vlCs VLog.zero (.slice none 0 0) (.slice none 0 0)).toList) := below_setCells (Nat.le_refl _) _ 0 ((Below.refl _ _).alloc (Nat.le_refl _) _)
  obtain ⟨g3, hg3⟩ : ∃ g3, g3 = w.heap.size := ⟨_, rfl⟩
  generalize hwz : World.setCells (w.alloc (.cells #[.int .u64 0, .int .i64 0, .int .u64 0, .int .u64 0, .slice none 0 0, .slice none 0 0] 30)) w.heap.size 0 (vlCs VLog.zero (.slice none 0 0) (.slice none 0 0)).toList = wz at k9 hK9 ⊢
  clear hwz kZ
  rw [← hg3] at k9 ⊢
  have HK := Lib.hid (And.intro hg3 hK9)
  clear hg3 hK9
  have lv := k9.loadVar (P := Tryz.prog) Tryz.underlying30 rfl Tryz.infoLog
  go_wp2
  refine bodyPost_ret (v := .agg (vlCs VLog.zero (.slice none 0 0) (.slice none 0 0))) ?_ rfl ⟨rfl, HK.out.2⟩
  simp [results, Tryz.results17, Act.put, Sem.run_bind, Sem.run_pure, asAddr_ok, lv]
set_option maxRecDepth 100000 in
set_option maxHeartbeats 6400000 in
theorem lawVaultNil {ok : Nat → Prop} {w : World} {vsd ves : Value} {l : VLog} (h : VLm ok w vsd ves l) (hg0 : w.cell? ⟨0, 0, none⟩ = some (.iface 149 (.agg #[.pointer (some ⟨1, 37, none⟩)]))) :
    Calls Tryz.prog 4 #[.agg (vlCs l vsd ves)] w fun e w' => e = .returned (.bool true) ∧ Below w.heap.size w w' := by
  obtain ⟨L1, hL1⟩ : ∃ L1 : Array Value, L1 = vlCs l vsd ves := ⟨_, rfl⟩
  have hinf : (Tryz.prog.info? 30).map (·.size) = some L1.size := by rw [hL1]; exact Tryz.infoLog
  obtain ⟨g, hg⟩ : ∃ g, g = w.heap.size := ⟨_, rfl⟩
  have hlt0 := World.block_lt_of_cell? w _ hg0
  have HG0 := Lib.hid (fun (w' : World) (hb : Below w.heap.size w w') => (hb.cell (p := ⟨0, 0, none⟩) hlt0).trans hg0)
  rw [← hL1]
  have HL1 := Lib.hid hL1
  clear hL1 h hg0
  go_enter Tryz.func4, Tryz.ntmps4
  go_upto_region 1 with fail
  refine name_world (fun w1 => Blk w1 g 30 L1 ∧ Below w.heap.size w w1) ⟨by rw [hg]; exact Blk.new _ _ _, (Below.refl _ _).alloc (Nat.le_refl _) _⟩ ?_
  rintro w1 ⟨k1, hB1⟩
  rw [← hg]
  clear hg
  go_wp2_with fail
  refine (vopen_nil w1).mono ?_
  rintro e w2 ⟨⟨v, rfl, hv⟩, hB2⟩
  have HE := Lib.hid hv
  have hB02 := hB1.trans (hB2.mono hB1.size)
  clear hv
  go_wp2_with fail
  refine (vawake_any w2).mono ?_
  rintro e w3 ⟨rfl, hB3⟩
  have hB03 := hB02.trans (hB3.mono hB02.size)
  have HC := Lib.hid (code_err (HE.out.below hB3) (HG0.out w3 hB03))
  go_wp2_with fail
  refine HC.out.mono ?_
  rintro e w4 ⟨rfl, hB4⟩
  have hB04 := hB03.trans (hB4.mono hB03.size)
  have k4 := (((k1.below hB2 k1.lt).below hB3 (by have := hB2.size; have := k1.lt; omega)).below hB4 (by have := hB2.size; have := hB3.size; have := k1.lt; omega))
  have c0 : w4.cell? ⟨g, 0, none⟩ = some (.int .u64 (l.term : Int)) := by have := k4.cell 0; rw [HL1.out] at this; exact this
  have c1 : w4.cell? ⟨g, 1, none⟩ = some (.int .i64 l.vote) := by have := k4.cell 1; rw [HL1.out] at this; exact this
  have c2 : w4.cell? ⟨g, 2, none⟩ = some (.int .u64 (l.si : Int)) := by have := k4.cell 2; rw [HL1.out] at this; exact this
  have c3 : w4.cell? ⟨g, 3, none⟩ = some (.int .u64 (l.st : Int)) := by have := k4.cell 3; rw [HL1.out] at this; exact this
  have c4 : w4.cell? ⟨g, 4, none⟩ = some (vsd) := by have := k4.cell 4; rw [HL1.out] at this; exact this
  have c5 : w4.cell? ⟨g, 5, none⟩ = some (ves) := by have := k4.cell 5; rw [HL1.out] at this; exact this
  clear HC k4
  go_wp2_with fail
  refine (vput_nil _ w4).mono ?_
  rintro e w5 ⟨⟨v5, rfl, hv5⟩, hB5⟩
  have hB05 := hB04.trans (hB5.mono hB04.size)
  have HC := Lib.hid (code_err hv5 (HG0.out w5 hB05))
  clear hv5 c0 c1 c2 c3 c4 c5
  go_wp2_with fail
  refine HC.out.mono ?_
  rintro e w6 ⟨rfl, hB6⟩
  have hB06 := hB05.trans (hB6.mono hB05.size)
  clear HC
  go_wp2_with fail
  refine (vlog_nil w6).mono ?_
  rintro e w7 ⟨rfl, hB7⟩
  have hB07 := hB06.trans (hB7.mono hB06.size)
  have HLG := Lib.hid (show Calls Tryz.prog 13 #[.agg (vlCs VLog.zero (.slice none 0 0) (.slice none 0 0)), .agg #[.int .u64 0, .int .i64 0, .int .u64 0, .int .u64 0, .slice none 0 0, .slice none 0 0]] w7 fun e w' => e = .returned (.bool true) ∧ Below w7.heap.size w7 w' from log_any (vm_zero (fun _ => True) w7) (vm_zero (fun _ => True) w7))
  go_wp2_with fail
  refine HLG.out.mono ?_
  rintro e w8 ⟨rfl, hB8⟩
  go_wp2
  go_ret
  exact ⟨rfl, hB07.trans (hB8.mono hB07.size)⟩
end Go.Proofs.YtnlhjhpikjmoaaaGreatDoor
