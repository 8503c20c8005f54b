/- The walk of the law VaultAny. -/
import Derived.Test.YtnlhjhpikjmoaaaGreatDoorB26
import Derived.Test.YtnlhjhpikjmoaaaGreatDoorA9
import Derived.Deep.DeepCutAuto
import Derived.Lib.MinMax
namespace Go.Proofs.YtnlhjhpikjmoaaaGreatDoor
open Go.RowKit
theorem any_room {l : VLog} (h1 : 12 * sizeV l ≤ 524288) : ¬ (8192 - 2) / 3 < secSum (recordsV VLog.zero l .beg) := by
  have h2 := whole_secs l .beg (by decide)
  have h3 : 100 * l.es.length ≤ sizeV l := by unfold sizeV; rw [size_datS]; omega
  omega
set_option maxRecDepth 100000 in
set_option maxHeartbeats 6400000 in
theorem lawVaultAny {oa ob : Nat → Prop} {w : World} {asd aes bsd bes : Value} {la lb : VLog} {keep : List Int} (vk : Value) (ha : VLm oa w asd aes la) (hb : VLm ob w bsd bes lb) (hkp : RSl rInt (fun b => b < w.heap.size) w vk keep) (hg0 : w.cell? ⟨0, 0, none⟩ = some (.iface 149 (.agg #[.pointer (some ⟨1, 37, none⟩)]))) :
    Calls Tryz.prog 6 #[.agg (vlCs la asd aes), .agg (vlCs lb bsd bes), vk] w fun e w' => e = .returned (.bool true) ∧ Below w.heap.size w w' := by
  have ha := ha.mono (ok' := fun b => b < w.heap.size) fun b _ hb => hb
  have hb := hb.mono (ok' := fun b => b < w.heap.size) fun b _ hb => hb
  obtain ⟨A1, c1, rfl, _, _⟩ := ha.sd.form
  obtain ⟨A2, c2, rfl, _, _⟩ := ha.es.form
  obtain ⟨B1, d1, rfl, _, _⟩ := hb.sd.form
  obtain ⟨B2, d2, rfl, _, _⟩ := hb.es.form
  obtain ⟨TA, hTA⟩ : ∃ T : Array Value, T = vlCs la (.slice A1 la.sd.length c1) (.slice A2 la.es.length c2) := ⟨_, rfl⟩
  obtain ⟨TB, hTB⟩ : ∃ T : Array Value, T = vlCs lb (.slice B1 lb.sd.length d1) (.slice B2 lb.es.length d2) := ⟨_, rfl⟩
  have hinfA : (Tryz.prog.info? 30).map (·.size) = some TA.size := by rw [hTA]; exact Tryz.infoLog
  have hinfB : (Tryz.prog.info? 30).map (·.size) = some TB.size := by rw [hTB]; exact Tryz.infoLog
  have hlt0 := World.block_lt_of_cell? w _ hg0
  have HG0 := Lib.hid (fun (w' : World) (hb : Below w.heap.size w w') => (hb.cell (p := ⟨0, 0, none⟩) hlt0).trans hg0)
  rw [← hTA, ← hTB]
  have HA := Lib.hid (fun (w' : World) (h : Below w.heap.size w w') => ha.below h)
  have HB := Lib.hid (fun (w' : World) (h : Below w.heap.size w w') => hb.below h)
  have HTA := Lib.hid hTA
  have HTB := Lib.hid hTB
  have HKP := Lib.hid hkp
  clear ha hb hTA hTB hg0 hlt0 hkp
  go_enter Tryz.func6, Tryz.ntmps6
  go_upto_region 1 with fail
  obtain ⟨g3, hg3⟩ : ∃ g3, g3 = w.heap.size := ⟨_, rfl⟩
  refine name_world (fun w1 => Blk w1 g3 30 TA ∧ Blk w1 (g3 + 1) 30 TB ∧ Below w.heap.size w w1 ∧ w1.heap.size = g3 + 2) ⟨by rw [hg3]; exact (Blk.new _ _ _).alloc _, by rw [hg3]; exact Blk.new_ (by simp), ((Below.refl _ _).alloc (Nat.le_refl _) _).alloc (by simp) _, by rw [hg3]; simp⟩ ?_
  rintro w1 ⟨k3, k4, hB1, hz1⟩
  obtain ⟨g4, hg4⟩ : ∃ g4, g4 = g3 + 1 := ⟨_, rfl⟩
  rw [← hg3]
  rw [← hg4] at k4 ⊢
  have HG3 := Lib.hid hg3
  have HG4 := Lib.hid hg4
  have HZ1 := Lib.hid hz1
  clear hg3 hg4 hz1
  go_cut [37] (fun v wx => ∃ bad : Bool, v = .bool bad ∧ Below w1.heap.size w1 wx ∧ Hid (bad = false → 12 * sizeV la ≤ 524288 ∧ 12 * sizeV lb ≤ 524288 ∧ la.es.length < 400 ∧ lb.es.length < 400 ∧ datS la.es < 131072 ∧ datS lb.es < 131072))
  case first =>
    refine wp_seqL [0, 4, 9, 14, 16] (by as_aux_lemma => kernel_rfl) (by as_aux_lemma => kernel_rfl) fun wA hbA => ?_
    have hz1 : w.heap.size ≤ w1.heap.size := hB1.size
    refine seqL_wild hbA rfl rfl fun K hK => ?_
    unfold Gives
    go_simp
    refine (vawake_any _).mono ?_
    rintro e wB ⟨rfl, hbB⟩
    refine ⟨_, rfl, hK _ _ (hbB) fun hbB' => ?_⟩
    clear hK
    clear K
    simp only [Act.put, List.setIfInBounds_toArray, List.set_cons_succ, List.set_cons_zero]
    refine seqL_pre 2 (by kernel_rfl) ?_
    simp only [List.take_succ_cons, List.take_zero, List.drop_succ_cons, List.drop_zero]
    repeat (go_big_quiet_step (fail))
    refine wpQuiet_nil ?_
    refine seqL_still (.agg TA) rfl rfl (fun s => still_ld (g := g3) (k := 0) rfl rfl (k3.below s.below k3.lt).range Tryz.underlying30 rfl hinfA) ?_
    have HS := Lib.hid (small_any (HA.out wB (hB1.trans (hbB'.mono hz1))))
    rw [← HTA.out] at HS
    refine seqL_wild hbB' rfl rfl fun K hK => ?_
    unfold Gives
    go_simp
    refine HS.out.mono ?_
    rintro e wC ⟨⟨qa, rfl, hqa⟩, hbC⟩
    have HQA := Lib.hid hqa
    clear hqa HS
    refine ⟨_, rfl, hK _ _ (hbC) fun hbC' => ?_⟩
    clear hK
    clear K
    simp only [Act.put, List.setIfInBounds_toArray, List.set_cons_succ, List.set_cons_zero]
    cases qa
    · skip
      refine seqL_pre 4 (by kernel_rfl) ?_
      simp only [List.take_succ_cons, List.take_zero, List.drop_succ_cons, List.drop_zero]
      repeat (go_big_quiet_step (fail))
      refine wpQuiet_nil ?_
      refine seqL_skip rfl ?_
      simp only [Act.put, List.setIfInBounds_toArray, List.set_cons_succ, List.set_cons_zero]
      refine seqL_pre 4 (by kernel_rfl) ?_
      simp only [List.take_succ_cons, List.take_zero, List.drop_succ_cons, List.drop_zero]
      repeat (go_big_quiet_step (fail))
      refine wpQuiet_nil ?_
      refine seqL_skip rfl ?_
      simp only [Act.put, List.setIfInBounds_toArray, List.set_cons_succ, List.set_cons_zero]
      refine seqL_pre 1 (by kernel_rfl) ?_
      simp only [List.take_succ_cons, List.take_zero, List.drop_succ_cons, List.drop_zero]
      repeat (go_big_quiet_step (fail))
      refine wpQuiet_nil ?_
      refine seqL_skip rfl ?_
      simp only [Act.put, List.setIfInBounds_toArray, List.set_cons_succ, List.set_cons_zero]
      refine seqL_pre 4 (by kernel_rfl) ?_
      simp only [List.take_succ_cons, List.take_zero, List.drop_succ_cons, List.drop_zero]
      repeat (go_big_quiet_step (fail))
      refine wpQuiet_nil ?_
      refine seqL_nil ?_
      go_wp2
      go_meet
      exact ⟨true, rfl, hbC', Lib.hid fun h => by cases h⟩
    refine seqL_pre 3 (by kernel_rfl) ?_
    simp only [List.take_succ_cons, List.take_zero, List.drop_succ_cons, List.drop_zero]
    repeat (go_big_quiet_step (fail))
    refine wpQuiet_nil ?_
    refine seqL_still (.agg TB) rfl rfl (fun s => still_ld (g := g4) (k := 0) rfl rfl (k4.below s.below k4.lt).range Tryz.underlying30 rfl hinfB) ?_
    have HS := Lib.hid (small_any (HB.out wC (hB1.trans (hbC'.mono hz1))))
    rw [← HTB.out] at HS
    refine seqL_wild hbC' rfl rfl fun K hK => ?_
    unfold Gives
    go_simp
    refine HS.out.mono ?_
    rintro e wD ⟨⟨qb, rfl, hqb⟩, hbD⟩
    have HQB := Lib.hid hqb
    clear hqb HS
    refine ⟨_, rfl, hK _ _ (hbD) fun hbD' => ?_⟩
    clear hK
    clear K
    simp only [Act.put, List.setIfInBounds_toArray, List.set_cons_succ, List.set_cons_zero]
    cases qb
    · skip
      refine seqL_pre 4 (by kernel_rfl) ?_
      simp only [List.take_succ_cons, List.take_zero, List.drop_succ_cons, List.drop_zero]
      repeat (go_big_quiet_step (fail))
      refine wpQuiet_nil ?_
      refine seqL_skip rfl ?_
      simp only [Act.put, List.setIfInBounds_toArray, List.set_cons_succ, List.set_cons_zero]
      refine seqL_pre 1 (by kernel_rfl) ?_
      simp only [List.take_succ_cons, List.take_zero, List.drop_succ_cons, List.drop_zero]
      repeat (go_big_quiet_step (fail))
      refine wpQuiet_nil ?_
      refine seqL_skip rfl ?_
      simp only [Act.put, List.setIfInBounds_toArray, List.set_cons_succ, List.set_cons_zero]
      refine seqL_pre 4 (by kernel_rfl) ?_
      simp only [List.take_succ_cons, List.take_zero, List.drop_succ_cons, List.drop_zero]
      repeat (go_big_quiet_step (fail))
      refine wpQuiet_nil ?_
      refine seqL_nil ?_
      go_wp2
      go_meet
      exact ⟨true, rfl, hbD', Lib.hid fun h => by cases h⟩
    refine seqL_pre 3 (by kernel_rfl) ?_
    simp only [List.take_succ_cons, List.take_zero, List.drop_succ_cons, List.drop_zero]
    repeat (go_big_quiet_step (fail))
    refine wpQuiet_nil ?_
    refine seqL_still (.agg TA) rfl rfl (fun s => still_ld (g := g3) (k := 0) rfl rfl (k3.below s.below k3.lt).range Tryz.underlying30 rfl hinfA) ?_
    have hda : datS la.es < 131072 := by have := (HQA.out rfl).2; omega
    have hdb : datS lb.es < 131072 := by have := (HQB.out rfl).2; omega
    have hea := (HQA.out rfl).1
    have heb := (HQB.out rfl).1
    obtain ⟨sa, hsa⟩ : ∃ sa, sa = sizeV la := ⟨_, rfl⟩
    obtain ⟨sb, hsb⟩ : ∃ sb, sb = sizeV lb := ⟨_, rfl⟩
    have hsab : sa ≤ 1000000 := by have := (HQA.out rfl).2; rw [hsa, sizeV, size_datS]; omega
    have hsbb : sb ≤ 1000000 := by have := (HQB.out rfl).2; rw [hsb, sizeV, size_datS]; omega
    have HS := Lib.hid (size_any (HA.out wD (hB1.trans (hbD'.mono hz1))) (by omega))
    rw [← HTA.out, ← hsa] at HS
    refine seqL_wild hbD' rfl rfl fun K hK => ?_
    unfold Gives
    go_simp
    refine HS.out.mono ?_
    rintro e wE ⟨rfl, hbE⟩
    clear HS
    refine ⟨_, rfl, hK _ _ (hbE) fun hbE' => ?_⟩
    clear hK
    clear K
    simp only [Act.put, List.setIfInBounds_toArray, List.set_cons_succ, List.set_cons_zero]
    refine seqL_still (.agg TB) rfl rfl (fun s => still_ld (g := g4) (k := 0) rfl rfl (k4.below s.below k4.lt).range Tryz.underlying30 rfl hinfB) ?_
    have HS := Lib.hid (size_any (HB.out wE (hB1.trans (hbE'.mono hz1))) (by omega))
    rw [← HTB.out, ← hsb] at HS
    refine seqL_wild hbE' rfl rfl fun K hK => ?_
    unfold Gives
    go_simp
    refine HS.out.mono ?_
    rintro e wF ⟨rfl, hbF⟩
    clear HS
    refine ⟨_, rfl, hK _ _ (hbF) fun hbF' => ?_⟩
    clear hK
    clear K
    simp only [Act.put, List.setIfInBounds_toArray, List.set_cons_succ, List.set_cons_zero]
    have HSA := Lib.hid hsa
    have HSB := Lib.hid hsb
    clear hsa hsb
    refine seqL_pre 4 (by kernel_rfl) ?_
    simp only [List.take_succ_cons, List.take_zero, List.drop_succ_cons, List.drop_zero]
    repeat (go_big_quiet_step (fail))
    refine wpQuiet_nil ?_
    refine seqL_nil ?_
    go_wp2
    go_meet
    refine ⟨_, rfl, hbF', Lib.hid fun h => ?_⟩
    have h := of_decide_eq_false h
    rw [← HSA.out, ← HSB.out]
    refine ⟨by omega, by omega, hea, heb, hda, hdb⟩
  obtain ⟨bad, rfl, hbw, HBAD⟩ := hcut
  obtain ⟨w2, rfl⟩ : ∃ w2, w2 = wc := ⟨_, rfl⟩
  have hB2 := hB1.trans (hbw.mono hB1.size)
  cases bad
  rotate_left
  · go_wp2_with fail
    refine (vawake_any w2).mono ?_
    rintro e w3 ⟨rfl, hb3⟩
    go_wp2
    go_ret
    exact ⟨rfl, hB2.trans (hb3.mono hB2.size)⟩
  have HBD := Lib.hid (HBAD.out rfl)
  have k3 := k3.below hbw k3.lt
  have k4 := k4.below hbw k4.lt
  clear HBAD hbw
  go_wp2_with fail
  refine (dNew_any 8192 (by omega) (by omega) w2).mono ?_
  rintro e w3 ⟨⟨gd, rfl, hgd, hD3⟩, hb3⟩
  have HOP := Lib.hid (vopen_new (n := 8192) (f := fun b => w2.heap.size ≤ b ∧ b < w3.heap.size) (by omega) (by omega) (hD3.mono fun b hb hlt => ⟨hb, hlt⟩) (fun x hx => hx.2))
  clear hD3
  go_wp2_with fail
  refine HOP.out.mono ?_
  rintro e w4 ⟨⟨gv, rfl, hV4⟩, hK4⟩
  have hz3 := hb3.size
  have hz4 := hK4.size
  have hb4 : Below w2.heap.size w2 w4 := hb3.trans (hK4.below hz3 fun x hx h => by omega)
  have hV4 : VltS (fun x => w2.heap.size ≤ x ∧ x < w4.heap.size) w4 gv gd 8192 2 VLog.zero := hV4.wide fun x hx => by rcases hx with h | h <;> omega
  have HV4 := Lib.hid hV4
  have k3 := k3.below hb4 k3.lt
  have k4 := k4.below hb4 k4.lt
  have HB4 := Lib.hid (hB2.trans (hb4.mono hB2.size))
  have HZ4 : Hid (w.heap.size ≤ w4.heap.size) := Lib.hid HB4.out.size
  have HZ2 : Hid (w.heap.size ≤ w2.heap.size) := Lib.hid hB2.size
  clear hK4 HOP hV4 hb4 hb3 hz3 hz4 hB2 hB1
  obtain ⟨gh, hgh⟩ : ∃ gh, gh = w4.heap.size := ⟨_, rfl⟩
  go_upto_region 8 with fail
  refine name_world (fun w5 => Blk w5 gh 30 (vlCs VLog.zero (.slice none 0 0) (.slice none 0 0)) ∧ Blk w5 g3 30 TA ∧ Blk w5 g4 30 TB ∧ Below w4.heap.size w4 w5 ∧ w5.heap.size = gh + 1) ⟨by rw [hgh]; exact Blk.new _ _ _, k3.alloc _, k4.alloc _, (Below.refl _ _).alloc (Nat.le_refl _) _, by rw [hgh]; simp⟩ ?_
  rintro w5 ⟨kh, k3, k4, hb5, hz5⟩
  rw [← hgh]
  have HGH := Lib.hid hgh
  have HV5 := Lib.hid (HV4.out.below hb5)
  have HB5 := Lib.hid (HB4.out.trans (hb5.mono HB4.out.size))
  clear hgh HV4 HB4 hb5
  obtain ⟨gq, hgq⟩ : ∃ gq, gq = w5.heap.size := ⟨_, rfl⟩
  obtain ⟨msa, hmsa⟩ : ∃ m, m = la.sd.length := ⟨_, rfl⟩
  obtain ⟨mea, hmea⟩ : ∃ m, m = la.es.length := ⟨_, rfl⟩
  obtain ⟨msb, hmsb⟩ : ∃ m, m = lb.sd.length := ⟨_, rfl⟩
  obtain ⟨meb, hmeb⟩ : ∃ m, m = lb.es.length := ⟨_, rfl⟩
  have hta : TA = #[.int .u64 (la.term : Int), .int .i64 la.vote, .int .u64 (la.si : Int), .int .u64 (la.st : Int), .slice A1 msa c1, .slice A2 mea c2] := by rw [HTA.out, hmsa, hmea]; rfl
  have htb : TB = #[.int .u64 (lb.term : Int), .int .i64 lb.vote, .int .u64 (lb.si : Int), .int .u64 (lb.st : Int), .slice B1 msb d1, .slice B2 meb d2] := by rw [HTB.out, hmsb, hmeb]; rfl
  have e3 : Blk w5 g3 30 #[.int .u64 (la.term : Int), .int .i64 la.vote, .int .u64 (la.si : Int), .int .u64 (la.st : Int), .slice A1 msa c1, .slice A2 mea c2] := by rw [← hta]; exact k3
  have e4 : Blk w5 g4 30 #[.int .u64 (lb.term : Int), .int .i64 lb.vote, .int .u64 (lb.si : Int), .int .u64 (lb.st : Int), .slice B1 msb d1, .slice B2 meb d2] := by rw [← htb]; exact k4
  have x0 : w5.cell? ⟨g3, 0, none⟩ = some (.int .u64 (la.term : Int)) := e3.cell 0
  have x1 : w5.cell? ⟨g3, 1, none⟩ = some (.int .i64 la.vote) := e3.cell 1
  have x2 : w5.cell? ⟨g3, 2, none⟩ = some (.int .u64 (la.si : Int)) := e3.cell 2
  have x3 : w5.cell? ⟨g3, 3, none⟩ = some (.int .u64 (la.st : Int)) := e3.cell 3
  have x4 : w5.cell? ⟨g3, 4, none⟩ = some (.slice A1 msa c1) := e3.cell 4
  have x5 : w5.cell? ⟨g3, 5, none⟩ = some (.slice A2 mea c2) := e3.cell 5
  have y0 : w5.cell? ⟨g4, 0, none⟩ = some (.int .u64 (lb.term : Int)) := e4.cell 0
  have y1 : w5.cell? ⟨g4, 1, none⟩ = some (.int .i64 lb.vote) := e4.cell 1
  have y2 : w5.cell? ⟨g4, 2, none⟩ = some (.int .u64 (lb.si : Int)) := e4.cell 2
  have y3 : w5.cell? ⟨g4, 3, none⟩ = some (.int .u64 (lb.st : Int)) := e4.cell 3
  have y4 : w5.cell? ⟨g4, 4, none⟩ = some (.slice B1 msb d1) := e4.cell 4
  have y5 : w5.cell? ⟨g4, 5, none⟩ = some (.slice B2 meb d2) := e4.cell 5
  have HGQ := Lib.hid hgq
  have HH := Lib.hid (And.intro hmsa (And.intro hmea (And.intro hmsb hmeb)))
  have HTA2 := Lib.hid hta
  have HTB2 := Lib.hid htb
  have HKH := Lib.hid kh
  have HZ5 := Lib.hid hz5
  have HK34 := Lib.hid (And.intro k3 k4)
  clear hgq hmsa hmea hmsb hmeb hta htb e3 e4 kh k3 k4 hz5
  obtain ⟨Q, hQ⟩ : ∃ Q : Array Value, Q = #[.int .u64 (la.term : Int), .int .i64 la.vote, .int .u64 (la.si : Int), .int .u64 (la.st : Int), .slice A1 msa c1, .slice A2 mea c2, .int .u64 (lb.term : Int), .int .i64 lb.vote, .int .u64 (lb.si : Int), .int .u64 (lb.st : Int), .slice B1 msb d1, .slice B2 meb d2, .int .u64 (la.term : Int), .int .i64 la.vote, .int .u64 (la.si : Int), .int .u64 (la.st : Int), .slice A1 msa c1, .slice A2 mea c2, .int .u64 (lb.term : Int), .int .i64 lb.vote, .int .u64 (lb.si : Int), .int .u64 (lb.st : Int), .slice B1 msb d1, .slice B2 meb d2] := ⟨_, rfl⟩
  go_upto_region 9 with fail
  refine name_world (fun w6 => Blk w6 gq 30 Q ∧ Below w5.heap.size w5 w6 ∧ w6.heap.size = gq + 1) ⟨by rw [hQ]; exact Blk.new_ HGQ.out, (Below.refl _ _).alloc (Nat.le_refl _) _, by rw [HGQ.out]; simp⟩ ?_
  rintro w6 ⟨kq, hb6, hz6⟩
  rw [← HGQ.out]
  have HQ := Lib.hid hQ
  clear hQ x0 x1 x2 x3 x4 x5 y0 y1 y2 y3 y4 y5
  have hz5 := HZ5.out
  have hghz := HGH.out
  have hgqz := HGQ.out
  have hz4w := HZ4.out
  have HGW : Hid (w.heap.size ≤ gh ∧ w.heap.size ≤ gq ∧ gh ≠ gq) := Lib.hid (by omega)
  have HTR := Lib.hid (fun (w' : World) (h : Below w.heap.size w w') => HA.out w' h)
  go_loopw [60] (fun vi wr => ∃ (i : Nat) (hv : VLog) (vsd ves : Value) (F : Nat → Prop), i ≤ 4 ∧ vi = .int .i64 (i : Int) ∧ Hid (Blk wr gh 30 (vlCs hv vsd ves)) ∧ Hid (VLm (fun b => b < w.heap.size) wr vsd ves hv) ∧ Hid (VltS F wr gv gd 8192 (2 + i) hv) ∧ Hid (∀ x, F x → w.heap.size ≤ x ∧ x < wr.heap.size ∧ x ≠ gh ∧ x ≠ gq) ∧ Hid (Blk wr gq 30 Q) ∧ Hid (hv.es.length < 400) ∧ Below w.heap.size w wr) (fun vi _ => 4 - (intOf vi).toNat)
  case atStart => exact ⟨0, VLog.zero, _, _, _, by omega, rfl, Lib.hid (HKH.out.below hb6 HKH.out.lt), Lib.hid (vm_zero _ _), Lib.hid (HV5.out.below hb6), Lib.hid (fun x hx => by have := HZ2.out; omega), Lib.hid kq, Lib.hid (by decide), HB5.out.trans (hb6.mono HB5.out.size)⟩
  clear hz5 hghz hgqz hz4w kq hb6 hz6 HKH HV5 HK34 HZ5
  case round =>
    obtain ⟨i, hv, vsd, ves, F, hi, rfl, HK, HM, HV, HF, HKQ, HEL, hB⟩ := hrel
    have hbs := hB.size
    obtain ⟨v1, d1', rfl, _, _⟩ := HM.out.sd.form
    obtain ⟨v2, d2', rfl, _, _⟩ := HM.out.es.form
    by_cases hlt : i < 4
    rotate_left
    · have z1 : decide ((i : Int) < 4) = false := decide_eq_false (by omega)
      obtain ⟨f', gl', T', first', recs', vsd', ves', hf1, hf2, hf3, hf4, hf5, hf6, hf7, hf8, hf9, hf10, hf11⟩ := HV.out
      have HKE := Lib.hid (RSl.below HKP.out hB)
      have HCR := Lib.hid (crash_opS hf7 vk keep HKE.out (fun b hb h => by have := (HF.out b (hf1 b h)).1; omega))
      have HF1 := Lib.hid hf1
      have HG9 := Lib.hid hf9
      have HS10 := Lib.hid hf10
      have HTT := Lib.hid (And.intro hf4 hf5)
      obtain ⟨H, hH⟩ : ∃ H : Array Value, H = vlCs hv (.slice v1 hv.sd.length d1') (.slice v2 hv.es.length d2') := ⟨_, rfl⟩
      have hinfH : (Tryz.prog.info? 30).map (·.size) = some H.size := by rw [hH]; exact Tryz.infoLog
      have kH := HK.out
      rw [← hH] at kH
      have HHE := Lib.hid hH
      have hgw := HGW.out
      clear hf1 hf2 hf3 hf4 hf5 hf6 hf7 hf8 hf9 hf10 hf11 hH HKE HV HK HKQ
      go_wp2_with fail
      refine HCR.out.mono ?_
      rintro e wA ⟨rfl, ⟨d, start, nx, rs, hd, him, hrs⟩, hKA⟩
      have HST := Lib.hid (start_opS (us := []) ⟨d, keep, start, nx, rs, hd, him, hrs⟩)
      have HKA := Lib.hid hKA
      clear hd him hrs HCR hKA
      go_wp2_with fail
      refine HST.out.mono ?_
      rintro e wB ⟨rfl, hI, hKB⟩
      have hKAB : Kp (fun x => ¬ f' x) wr wB := HKA.out.trans hKB
      have hzB := hKAB.size
      have hopI := open_opI hI (by have := HTT.out.1; omega) (fun x hx => by have := (HF.out x (HF1.out x hx)).2.1; omega)
      have hop : Calls Tryz.prog 31 #[.pointer (some ⟨gd, 0, none⟩)] wB fun e w' => (∃ g2, e = .returned (.tuple #[.pointer (some ⟨g2, 0, none⟩), .int .i64 0]) ∧ LogS (fun x => f' x ∨ (wB.heap.size ≤ x ∧ x < w'.heap.size)) w' g2 gd 8192 (T' + 1) first' recs' []) ∧ Kp (fun x => ¬ f' x) wB w' := by
        refine hopI.mono ?_
        rintro e w' ⟨⟨g2, m, _, rfl, hL⟩, hK⟩
        rw [List.take_nil, List.append_nil] at hL
        exact ⟨⟨g2, rfl, hL⟩, hK⟩
      have HOP := Lib.hid (vopen_any (c := 7) hop HG9.out HS10.out (by omega) (fun x hx => by have := (HF.out x (HF1.out x hx)).2.1; omega) (by have := HTT.out.1; omega) (by omega) (by have := HTT.out.2; omega))
      have HKB := Lib.hid hKAB
      clear hI hKB hKAB hopI hop HST HKA HG9 HS10 HTT
      go_wp2_with fail
      refine HOP.out.mono ?_
      rintro e wC ⟨⟨gw, rfl, hVC⟩, hKC⟩
      have hKC : Kp (fun x => ¬ f' x) wr wC := HKB.out.trans hKC
      have hzC := hKC.size
      have hBC := hB.trans (hKC.below hbs fun x hx h => by have := (HF.out x (HF1.out x h)).1; omega)
      have kC := kH.kp hKC fun h => (HF.out gh (HF1.out gh h)).2.2.1 rfl
      have HVC := Lib.hid hVC
      have HMC := Lib.hid (HM.out.kp (hKC.mono fun b hb h => by have := (HF.out b (HF1.out b h)).1; omega))
      clear hVC hKC HOP HKB kH
      go_upto_region 20 with fail
      refine wp_seqL [8, 10] (by as_aux_lemma => kernel_rfl) (by as_aux_lemma => kernel_rfl) fun wI hbI => ?_
      refine seqL_pre 8 (by kernel_rfl) ?_
      simp only [List.take_succ_cons, List.take_zero, List.drop_succ_cons, List.drop_zero]
      repeat (go_big_quiet_step (fail))
      refine wpQuiet_nil ?_
      have HVL : Hid (Calls Tryz.prog 17 #[.pointer (some ⟨gw, 0, none⟩)] wI fun e w' => (∃ vsd' ves', e = .returned (.agg (vlCs hv vsd' ves')) ∧ VLm (fun b => wI.heap.size ≤ b) w' vsd' ves' hv) ∧ Below wI.heap.size wI w') := by
        obtain ⟨f', gl', T', first', recs', vsd', ves', _, _, _, _, _, hbB, _, hmB, _, _, hleB⟩ := HVC.out.below hbI
        exact Lib.hid (vlog_any hbB hmB (by omega))
      refine seqL_wild hbI rfl rfl fun K hK => ?_
      unfold Gives
      go_simp
      refine HVL.out.mono ?_
      rintro e wJ ⟨⟨v3, e3, rfl, hm3⟩, hbJ⟩
      obtain ⟨A3, c3, rfl, _⟩ := hm3.sd.form
      obtain ⟨A4, c4, rfl, _⟩ := hm3.es.form
      obtain ⟨U, hU⟩ : ∃ U : Array Value, U = vlCs hv (.slice A3 hv.sd.length c3) (.slice A4 hv.es.length c4) := ⟨_, rfl⟩
      rw [← hU]
      have HU := Lib.hid hU
      have HM3 := Lib.hid hm3
      clear hU hm3 HVL
      refine ⟨_, rfl, hK _ _ (hbJ) fun hbJ' => ?_⟩
      clear hK
      clear K
      simp only [Act.put, List.setIfInBounds_toArray, List.set_cons_succ, List.set_cons_zero]
      refine seqL_still (.agg H) rfl rfl (fun s => still_ld (g := gh) (k := 0) rfl rfl (kC.below s.below kC.lt).range Tryz.underlying30 rfl hinfH) ?_
      have HLG := Lib.hid (log_any HM3.out (HMC.out.below hbJ'))
      rw [← HHE.out, ← HU.out, sameV_refl] at HLG
      refine seqL_wild hbJ' rfl rfl fun K hK => ?_
      unfold Gives
      go_simp
      refine HLG.out.mono ?_
      rintro e wK ⟨rfl, hbK⟩
      refine ⟨_, rfl, hK _ _ (hbK) fun hbK' => ?_⟩
      clear hK
      clear K
      simp only [Act.put, List.setIfInBounds_toArray, List.set_cons_succ, List.set_cons_zero]
      refine seqL_pre 2 (by kernel_rfl) ?_
      simp only [List.take_succ_cons, List.take_zero, List.drop_succ_cons, List.drop_zero]
      repeat (go_big_quiet_step (fail))
      refine wpQuiet_nil ?_
      refine seqL_nil ?_
      have HBE := Lib.hid (hBC.trans (hbK'.mono hBC.size))
      clear hbK hbK' hbJ hbJ' hbI hBC kC hinfH HVC HMC
      go_wp2
      go_ret
      exact ⟨rfl, HBE.out⟩
    have z1 : decide ((i : Int) < 4) = true := decide_eq_true (by omega)
    obtain ⟨x, As, cs, Ae, ce, HR, HX, HSX⟩ : ∃ (x : VLog) (As : Option Addr) (cs : Nat) (Ae : Option Addr) (ce : Nat), Hid (wr.rangeAt gq (i * 6) (vlCs x (.slice As x.sd.length cs) (.slice Ae x.es.length ce)).toList) ∧ Hid (∀ w' : World, Below w.heap.size w w' → VLm (fun b => b < w.heap.size) w' (.slice As x.sd.length cs) (.slice Ae x.es.length ce) x) ∧ Hid (12 * sizeV x ≤ 524288 ∧ x.es.length < 400) := by
      have hra : ∀ i, i = 0 ∨ i = 2 → wr.rangeAt gq (i * 6) (vlCs la (.slice A1 la.sd.length c1) (.slice A2 la.es.length c2)).toList := fun i hi => HKQ.out.rangeW (i * 6) _ fun j v hv => by
        rw [HQ.out, HH.out.1, HH.out.2.1, HH.out.2.2.1, HH.out.2.2.2]
        rcases hi with rfl | rfl <;> match j, hv with
        | 0, hv => exact hv
        | 1, hv => exact hv
        | 2, hv => exact hv
        | 3, hv => exact hv
        | 4, hv => exact hv
        | 5, hv => exact hv
        | j + 6, hv => simp [vlCs] at hv
      have hrb : ∀ i, i = 1 ∨ i = 3 → wr.rangeAt gq (i * 6) (vlCs lb (.slice B1 lb.sd.length d1) (.slice B2 lb.es.length d2)).toList := fun i hi => HKQ.out.rangeW (i * 6) _ fun j v hv => by
        rw [HQ.out, HH.out.1, HH.out.2.1, HH.out.2.2.1, HH.out.2.2.2]
        rcases hi with rfl | rfl <;> match j, hv with
        | 0, hv => exact hv
        | 1, hv => exact hv
        | 2, hv => exact hv
        | 3, hv => exact hv
        | 4, hv => exact hv
        | 5, hv => exact hv
        | j + 6, hv => simp [vlCs] at hv
      have hbd := HBD.out
      by_cases he : i = 0 ∨ i = 2
      · exact ⟨la, A1, c1, A2, c2, Lib.hid (hra i he), HA, Lib.hid ⟨hbd.1, hbd.2.2.1⟩⟩
      · exact ⟨lb, B1, d1, B2, d2, Lib.hid (hrb i (by omega)), HB, Lib.hid ⟨hbd.2.1, hbd.2.2.2.1⟩⟩
    obtain ⟨X, hX⟩ : ∃ X : Array Value, X = vlCs x (.slice As x.sd.length cs) (.slice Ae x.es.length ce) := ⟨_, rfl⟩
    have hinfX : (Tryz.prog.info? 30).map (·.size) = some X.size := by rw [hX]; exact Tryz.infoLog
    have hallX : X.all (·.oneCell') = true := by rw [hX]; exact vl_all _ _ _ _ _ _ _
    have hszX : X.size = 6 := by rw [hX]; rfl
    rw [← hX] at HR
    have HXE := Lib.hid hX
    clear hX
    go_upto_region 10 with fail
    refine wp_region_split 1 ?_
    simp only [List.take_succ_cons, List.take_zero, List.drop_succ_cons, List.drop_zero]
    go_wp2
    show wpList _ _ _ _ _ _
    refine wpList_ld (g := gq) (k := i * 6) (cs := X) rfl rfl ?_ HR.out Tryz.underlying30 rfl hinfX ?_
    · rfl
    refine wpList_split 1 ?_
    simp only [List.take_succ_cons, List.take_zero, List.drop_succ_cons, List.drop_zero]
    go_wp2
    show wpList _ _ _ _ _ _
    obtain ⟨gx, hgx⟩ : ∃ gx, gx = wr.heap.size := ⟨_, rfl⟩
    rw [← hgx]
    have kZ : Blk (wr.alloc (.cells #[.int .u64 0, .int .i64 0, .int .u64 0, .int .u64 0, .slice none 0 0, .slice none 0 0] 30)) gx 30 #[.int .u64 0, .int .i64 0, .int .u64 0, .int .u64 0, .slice none 0 0, .slice none 0 0] := Blk.new_ hgx
    refine wpList_st rfl rfl X rfl rfl kZ (by rw [hszX]; rfl) hinfX hallX ?_ rfl
    intro k9
    have hK9 : Below wr.heap.size wr (World.setCells (wr.alloc (.cells #[.int .u64 0, .int .i64 0, .int .u64 0, .int .u64 0, .slice none 0 0, .slice none 0 0] 30)) gx 0 X.toList) := below_setCells (by omega) _ 0 ((Below.refl _ _).alloc (Nat.le_refl _) _)
    generalize hwz : World.setCells (wr.alloc (.cells #[.int .u64 0, .int .i64 0, .int .u64 0, .int .u64 0, .slice none 0 0, .slice none 0 0] 30)) gx 0 X.toList = wz at k9 hK9 ⊢
    clear hwz kZ
    have hBz := hB.trans (hK9.mono hbs)
    have hz9 := hK9.size
    have HVz := Lib.hid (HV.out.below hK9)
    have HFz : Hid (∀ y, F y → w.heap.size ≤ y ∧ y < wz.heap.size ∧ y ≠ gh ∧ y ≠ gq ∧ y ≠ gx) := Lib.hid fun y hy => by have := HF.out y hy; omega
    have HKz := Lib.hid (HK.out.below hK9 HK.out.lt)
    have HMz := Lib.hid (HM.out.below hK9)
    have HKQz := Lib.hid (HKQ.out.below hK9 HKQ.out.lt)
    have hgh1 := HK.out.lt
    have hgq1 := HKQ.out.lt
    have HGX : Hid (gx ≠ gh ∧ gx ≠ gq ∧ w.heap.size ≤ gx) := Lib.hid (by omega)
    have hgxl := k9.lt
    have HPUT := Lib.hid (vput_any HVz.out (fun y hy => (HFz.out y hy).2.1) ((HX.out wz hBz).mono (ok' := fun b => b < w.heap.size) fun b hb _ => hb) (fun b hb h => by have := (HFz.out b h).1; omega) (by omega) (by omega) (by omega) (by have := HSX.out.2; omega))
    rw [← HXE.out] at HPUT
    have HGXE := Lib.hid hgx
    clear HV HF HK HM HKQ HR hgh1 hgq1 hgx
    go_upto_region 11 with fail
    refine wp_region_split 1 ?_
    simp only [List.take_succ_cons, List.take_zero, List.drop_succ_cons, List.drop_zero]
    go_wp2
    show wpList _ _ _ _ _ _
    refine wpList_ld (g := gx) (k := 0) (cs := X) rfl rfl rfl k9.range Tryz.underlying30 rfl hinfX ?_
    go_wp2_with fail
    refine HPUT.out.mono ?_
    rintro e wA ⟨v, rfl, hKA, l2, hVA, hcase⟩
    obtain ⟨r, hr⟩ : ∃ r : Bool, r = rightV x := ⟨_, rfl⟩
    have HRR := Lib.hid hr
    have hzA := hKA.size
    obtain ⟨cd, hcd⟩ : ∃ cd : Int, cd = if r = true then 0 else 9 := ⟨_, rfl⟩
    have hlc : l2 = (if r = true then x else hv) ∧ ((r = true ∧ v = .nilIface) ∨ (r = false ∧ ErrV 2 wA v 9)) := by
      rcases hcase with h | h | h
      · have : r = false := by rw [hr]; exact h.1
        subst this
        exact ⟨h.2.1, .inr ⟨rfl, h.2.2⟩⟩
      · have : r = true := by rw [hr]; exact h.1
        subst this
        exact ⟨h.2.1, .inl ⟨rfl, h.2.2⟩⟩
      · exact absurd h.2.2.2 (any_room HSX.out.1)
    have hBA : Below w.heap.size w wA := hBz.trans (hKA.below hBz.size fun y hy h => by have := (HFz.out y h).1; omega)
    have HCD : Hid (Calls Tryz.prog 15 #[v] wA fun e w' => e = .returned (.int .i64 cd) ∧ Below wA.heap.size wA w') := Lib.hid (by
      rcases hlc.2 with ⟨rfl, rfl⟩ | ⟨rfl, h⟩
      · refine (code_nil wA).mono ?_
        rintro e w' ⟨rfl, rfl⟩
        exact ⟨by rw [hcd]; rfl, Below.refl _ _⟩
      · have := code_err h (HG0.out wA hBA)
        rw [hcd]
        exact this)
    have HLC := Lib.hid hlc.1
    have HVA := Lib.hid hVA
    have hFA : ∀ y, (F y ∨ (wz.heap.size ≤ y ∧ y < wA.heap.size)) → w.heap.size ≤ y ∧ y < wA.heap.size ∧ y ≠ gh ∧ y ≠ gq ∧ y ≠ gx := fun y hy => by
      have := HKz.out.lt
      have := HKQz.out.lt
      have := hBz.size
      rcases hy with hy | hy
      · have := HFz.out y hy; omega
      · omega
    have HFA := Lib.hid hFA
    have hnf : ∀ y, (y < w.heap.size ∨ y = gh ∨ y = gq ∨ y = gx) → ¬ F y := fun y hy h => by have := HFz.out y h; omega
    have HKA := Lib.hid (HKz.out.kp hKA (hnf gh (by simp)))
    have HMA := Lib.hid (HMz.out.kp (hKA.mono fun b hb => hnf b (.inl hb)))
    have HKQA := Lib.hid (HKQz.out.kp hKA (hnf gq (by simp)))
    have kA := k9.kp hKA (hnf gx (by simp))
    have HCDE := Lib.hid hcd
    clear hcase hr hcd hlc hVA hFA hnf HPUT HVz HFz HKz HMz HKQz k9 hKA
    go_wp2_with fail
    refine HCD.out.mono ?_
    rintro e wB ⟨rfl, hbB⟩
    have hBB := hBA.trans (hbB.mono hBA.size)
    have kB := kA.below hbB kA.lt
    have hzB := hbB.size
    have HVB := Lib.hid (HVA.out.below hbB)
    have HFB : Hid (∀ y, (F y ∨ (wz.heap.size ≤ y ∧ y < wA.heap.size)) → w.heap.size ≤ y ∧ y < wB.heap.size ∧ y ≠ gh ∧ y ≠ gq ∧ y ≠ gx) := Lib.hid fun y hy => by have := HFA.out y hy; omega
    have HKB := Lib.hid (HKA.out.below hbB HKA.out.lt)
    have HMB := Lib.hid (HMA.out.below hbB)
    have HKQB := Lib.hid (HKQA.out.below hbB HKQA.out.lt)
    have HRF := Lib.hid (fun (w' : World) (h : Below w.heap.size w w') => vrefRight_any (HX.out w' h))
    rw [← HXE.out, ← HRR.out] at HRF
    clear HCD HVA HFA HKA HMA HKQA kA hbB
    go_upto_region 12 with fail
    refine wp_region_lit ?_
    refine wpList_ld (g := gx) (k := 0) (cs := X) rfl rfl rfl kB.range Tryz.underlying30 rfl hinfX ?_
    go_wp2_with fail
    refine (HRF.out _ hBB).mono ?_
    rintro e wC ⟨rfl, hbC⟩
    have hBC := hBB.trans (hbC.mono hBB.size)
    have kC := kB.below hbC kB.lt
    have hzC := hbC.size
    have HVC := Lib.hid (HVB.out.below hbC)
    have HFC : Hid (∀ y, (F y ∨ (wz.heap.size ≤ y ∧ y < wA.heap.size)) → w.heap.size ≤ y ∧ y < wC.heap.size ∧ y ≠ gh ∧ y ≠ gq ∧ y ≠ gx) := Lib.hid fun y hy => by have := HFB.out y hy; omega
    have HKC := Lib.hid (HKB.out.below hbC HKB.out.lt)
    have HMC := Lib.hid (HMB.out.below hbC)
    have HKQC := Lib.hid (HKQB.out.below hbC HKQB.out.lt)
    clear HVB HFB HKB HMB HKQB kB hbC
    go_upto_if 69 with fail
    go_cut [14] (fun v wx => v = .int .i64 cd ∧ ∃ (a1 : Option Addr) (b1 : Nat) (a2 : Option Addr) (b2 : Nat), Hid (Blk wx gh 30 (vlCs l2 (.slice a1 l2.sd.length b1) (.slice a2 l2.es.length b2))) ∧ Hid (VLm (fun b => b < w.heap.size) wx (.slice a1 l2.sd.length b1) (.slice a2 l2.es.length b2) l2) ∧ Hid (VltS (fun y => F y ∨ (wz.heap.size ≤ y ∧ y < wA.heap.size)) wx gv gd 8192 (2 + i + 1) l2) ∧ Hid (wC.heap.size ≤ wx.heap.size) ∧ Hid (Blk wx gq 30 Q) ∧ Hid (Blk wx gx 30 X) ∧ Below w.heap.size w wx)
    case first =>
      cases r
      · have hl2 : l2 = hv := HLC.out
        rw [hl2] at HVC
        have HL2 := Lib.hid hl2
        clear hl2 HLC
        go_wp2
        go_meet
        rw [HL2.out]
        exact ⟨rfl, v1, d1', v2, d2', HKC, HMC, HVC, Lib.hid (Nat.le_refl _), HKQC, Lib.hid kC, hBC⟩
      · have hl2 : l2 = x := HLC.out
        rw [hl2] at HVC
        have HL2 := Lib.hid hl2
        clear hl2 HLC
        go_upto_region 13 with fail
        refine wp_region_lit ?_
        refine wpList_ld (g := gx) (k := 0) (cs := X) rfl rfl rfl kC.range Tryz.underlying30 rfl hinfX ?_
        refine wpList_st rfl rfl X rfl rfl HKC.out (by rw [hszX]; rfl) hinfX hallX ?_ rfl
        intro k9
        have hK9 : Kp (fun b => ¬ b = gh) wC (World.setCells wC gh 0 X.toList) := Kp.setCells (b := gh) (fun _ h => h rfl) _ 0 (Kp.refl _ _)
        generalize hwz : World.setCells wC gh 0 X.toList = wz2 at k9 hK9 ⊢
        clear hwz
        have HK9 := Lib.hid hK9
        have HB9 := Lib.hid k9
        clear k9 hK9
        have hghw := HGW.out
        have hgx := HGX.out
        have HK10 := Lib.hid (show Blk wz2 gh 30 (vlCs x (.slice As x.sd.length cs) (.slice Ae x.es.length ce)) by rw [← HXE.out]; exact HB9.out)
        have HB10 := Lib.hid (hBC.trans (HK9.out.below hBC.size fun y hy => by omega))
        clear HB9
        go_wp2
        go_meet
        rw [HL2.out]
        exact ⟨rfl, As, cs, Ae, ce, HK10, Lib.hid (HX.out _ HB10.out), Lib.hid (HVC.out.kp HK9.out fun y hy => (HFC.out y hy).2.2.1), Lib.hid HK9.out.size, Lib.hid (HKQC.out.kp HK9.out fun e => hghw.2.2 e.symm), Lib.hid (kC.kp HK9.out hgx.1), HB10.out⟩
    obtain ⟨rfl, a1, b1, a2, b2, HKD, HMD, HVD, HZD, HKQD, HKXD, hBD⟩ := hcut
    obtain ⟨wD, rfl⟩ : ∃ wD, wD = wc := ⟨_, rfl⟩
    have HFD : Hid (∀ y, (F y ∨ (wz.heap.size ≤ y ∧ y < wA.heap.size)) → w.heap.size ≤ y ∧ y < wD.heap.size ∧ y ≠ gh ∧ y ≠ gq) := Lib.hid fun y hy => by have := HFC.out y hy; have := HZD.out; omega
    have kD := HKXD.out
    obtain ⟨H, hH⟩ : ∃ H : Array Value, H = vlCs l2 (.slice a1 l2.sd.length b1) (.slice a2 l2.es.length b2) := ⟨_, rfl⟩
    have hinfH : (Tryz.prog.info? 30).map (·.size) = some H.size := by rw [hH]; exact Tryz.infoLog
    have kHD := HKD.out
    rw [← hH] at kHD
    have HHE := Lib.hid hH
    have hl2e : l2.es.length < 400 := by
      have h := HLC.out
      rw [h]
      split
      · exact HSX.out.2
      · exact HEL.out
    have HEL2 := Lib.hid hl2e
    clear hH HKC HMC HVC HFC HKQC kC HKXD HZD hl2e hzC hzB hzA hz9
    go_upto_region 14 with fail
    go_cut [91] (fun v wx => v = .bool false ∧ Below wD.heap.size wD wx)
    case first =>
      cases r
      · have hcd : cd = 9 := HCDE.out
        subst hcd
        clear hallX hszX hinfA hinfB k3 k4 hV4 z1 hlt ha hb hgd hbs
        refine wp_seqL [1, 7, 16, 18] (by as_aux_lemma => kernel_rfl) (by as_aux_lemma => kernel_rfl) fun wE hbE => ?_
        refine seqL_still (.agg X) rfl rfl (fun s => still_ld (g := gx) (k := 0) rfl rfl (kD.below s.below kD.lt).range Tryz.underlying30 rfl hinfX) ?_
        refine seqL_wild hbE rfl rfl fun K hK => ?_
        unfold Gives
        go_simp
        refine (HRF.out _ (hBD.trans (hbE.mono hBD.size))).mono ?_
        rintro e wF ⟨rfl, hbF⟩
        refine ⟨_, rfl, hK _ _ (hbF) fun hbF' => ?_⟩
        clear hK
        clear K
        simp only [Act.put, List.setIfInBounds_toArray, List.set_cons_succ, List.set_cons_zero]
        refine seqL_pre 4 (by kernel_rfl) ?_
        simp only [List.take_succ_cons, List.take_zero, List.drop_succ_cons, List.drop_zero]
        repeat (go_big_quiet_step (fail))
        refine wpQuiet_nil ?_
        refine seqL_still (.agg X) rfl rfl (fun s => still_ld (g := gx) (k := 0) rfl rfl (kD.below s.below kD.lt).range Tryz.underlying30 rfl hinfX) ?_
        refine seqL_wild hbF' rfl rfl fun K hK => ?_
        unfold Gives
        go_simp
        refine (HRF.out _ (hBD.trans (hbF'.mono hBD.size))).mono ?_
        rintro e wG ⟨rfl, hbG⟩
        refine ⟨_, rfl, hK _ _ (hbG) fun hbG' => ?_⟩
        clear hK
        clear K
        simp only [Act.put, List.setIfInBounds_toArray, List.set_cons_succ, List.set_cons_zero]
        refine seqL_pre 8 (by kernel_rfl) ?_
        simp only [List.take_succ_cons, List.take_zero, List.drop_succ_cons, List.drop_zero]
        repeat (go_big_quiet_step (fail))
        refine wpQuiet_nil ?_
        have HVL : Hid (Calls Tryz.prog 17 #[.pointer (some ⟨gv, 0, none⟩)] wG fun e w' => (∃ vsd' ves', e = .returned (.agg (vlCs l2 vsd' ves')) ∧ VLm (fun b => wG.heap.size ≤ b) w' vsd' ves' l2) ∧ Below wG.heap.size wG w') := by
          obtain ⟨f', gl', T', first', recs', vsd', ves', _, _, _, _, _, hbB, _, hmB, _, _, hleB⟩ := HVD.out.below hbG'
          exact Lib.hid (vlog_any hbB hmB (by omega))
        refine seqL_wild hbG' rfl rfl fun K hK => ?_
        unfold Gives
        go_simp
        refine HVL.out.mono ?_
        rintro e wH ⟨⟨v3, e3, rfl, hm3⟩, hbH⟩
        obtain ⟨A3, c3, rfl, _⟩ := hm3.sd.form
        obtain ⟨A4, c4, rfl, _⟩ := hm3.es.form
        obtain ⟨U, hU⟩ : ∃ U : Array Value, U = vlCs l2 (.slice A3 l2.sd.length c3) (.slice A4 l2.es.length c4) := ⟨_, rfl⟩
        rw [← hU]
        have HU := Lib.hid hU
        have HM3 := Lib.hid hm3
        clear hU hm3 HVL
        refine ⟨_, rfl, hK _ _ (hbH) fun hbH' => ?_⟩
        clear hK
        clear K
        simp only [Act.put, List.setIfInBounds_toArray, List.set_cons_succ, List.set_cons_zero]
        refine seqL_still (.agg H) rfl rfl (fun s => still_ld (g := gh) (k := 0) rfl rfl (kHD.below s.below kHD.lt).range Tryz.underlying30 rfl hinfH) ?_
        have HLG := Lib.hid (log_any HM3.out (HMD.out.below hbH'))
        rw [← HHE.out, ← HU.out, sameV_refl] at HLG
        refine seqL_wild hbH' rfl rfl fun K hK => ?_
        unfold Gives
        go_simp
        refine HLG.out.mono ?_
        rintro e wI ⟨rfl, hbI⟩
        refine ⟨_, rfl, hK _ _ (hbI) fun hbI' => ?_⟩
        clear hK
        clear K
        simp only [Act.put, List.setIfInBounds_toArray, List.set_cons_succ, List.set_cons_zero]
        refine seqL_pre 2 (by kernel_rfl) ?_
        simp only [List.take_succ_cons, List.take_zero, List.drop_succ_cons, List.drop_zero]
        repeat (go_big_quiet_step (fail))
        refine wpQuiet_nil ?_
        refine seqL_nil ?_
        have HBI := Lib.hid hbI'
        have HBD' := Lib.hid hBD
        clear hinfX hinfH kD kHD hbE hbF hbF' hbG hbG' hbH hbH' hbI hbI' hBD hBC hBB hBA hBz hB
        go_wp2
        go_meet
        exact ⟨rfl, HBI.out⟩
      · have hcd : cd = 0 := HCDE.out
        subst hcd
        clear hallX hszX hinfA hinfB k3 k4 hV4 z1 hlt ha hb hgd hbs
        refine wp_seqL [1, 7, 16, 18] (by as_aux_lemma => kernel_rfl) (by as_aux_lemma => kernel_rfl) fun wE hbE => ?_
        refine seqL_still (.agg X) rfl rfl (fun s => still_ld (g := gx) (k := 0) rfl rfl (kD.below s.below kD.lt).range Tryz.underlying30 rfl hinfX) ?_
        refine seqL_wild hbE rfl rfl fun K hK => ?_
        unfold Gives
        go_simp
        refine (HRF.out _ (hBD.trans (hbE.mono hBD.size))).mono ?_
        rintro e wF ⟨rfl, hbF⟩
        refine ⟨_, rfl, hK _ _ (hbF) fun hbF' => ?_⟩
        clear hK
        clear K
        simp only [Act.put, List.setIfInBounds_toArray, List.set_cons_succ, List.set_cons_zero]
        refine seqL_pre 4 (by kernel_rfl) ?_
        simp only [List.take_succ_cons, List.take_zero, List.drop_succ_cons, List.drop_zero]
        repeat (go_big_quiet_step (fail))
        refine wpQuiet_nil ?_
        refine seqL_still (.agg X) rfl rfl (fun s => still_ld (g := gx) (k := 0) rfl rfl (kD.below s.below kD.lt).range Tryz.underlying30 rfl hinfX) ?_
        refine seqL_wild hbF' rfl rfl fun K hK => ?_
        unfold Gives
        go_simp
        refine (HRF.out _ (hBD.trans (hbF'.mono hBD.size))).mono ?_
        rintro e wG ⟨rfl, hbG⟩
        refine ⟨_, rfl, hK _ _ (hbG) fun hbG' => ?_⟩
        clear hK
        clear K
        simp only [Act.put, List.setIfInBounds_toArray, List.set_cons_succ, List.set_cons_zero]
        refine seqL_pre 8 (by kernel_rfl) ?_
        simp only [List.take_succ_cons, List.take_zero, List.drop_succ_cons, List.drop_zero]
        repeat (go_big_quiet_step (fail))
        refine wpQuiet_nil ?_
        have HVL : Hid (Calls Tryz.prog 17 #[.pointer (some ⟨gv, 0, none⟩)] wG fun e w' => (∃ vsd' ves', e = .returned (.agg (vlCs l2 vsd' ves')) ∧ VLm (fun b => wG.heap.size ≤ b) w' vsd' ves' l2) ∧ Below wG.heap.size wG w') := by
          obtain ⟨f', gl', T', first', recs', vsd', ves', _, _, _, _, _, hbB, _, hmB, _, _, hleB⟩ := HVD.out.below hbG'
          exact Lib.hid (vlog_any hbB hmB (by omega))
        refine seqL_wild hbG' rfl rfl fun K hK => ?_
        unfold Gives
        go_simp
        refine HVL.out.mono ?_
        rintro e wH ⟨⟨v3, e3, rfl, hm3⟩, hbH⟩
        obtain ⟨A3, c3, rfl, _⟩ := hm3.sd.form
        obtain ⟨A4, c4, rfl, _⟩ := hm3.es.form
        obtain ⟨U, hU⟩ : ∃ U : Array Value, U = vlCs l2 (.slice A3 l2.sd.length c3) (.slice A4 l2.es.length c4) := ⟨_, rfl⟩
        rw [← hU]
        have HU := Lib.hid hU
        have HM3 := Lib.hid hm3
        clear hU hm3 HVL
        refine ⟨_, rfl, hK _ _ (hbH) fun hbH' => ?_⟩
        clear hK
        clear K
        simp only [Act.put, List.setIfInBounds_toArray, List.set_cons_succ, List.set_cons_zero]
        refine seqL_still (.agg H) rfl rfl (fun s => still_ld (g := gh) (k := 0) rfl rfl (kHD.below s.below kHD.lt).range Tryz.underlying30 rfl hinfH) ?_
        have HLG := Lib.hid (log_any HM3.out (HMD.out.below hbH'))
        rw [← HHE.out, ← HU.out, sameV_refl] at HLG
        refine seqL_wild hbH' rfl rfl fun K hK => ?_
        unfold Gives
        go_simp
        refine HLG.out.mono ?_
        rintro e wI ⟨rfl, hbI⟩
        refine ⟨_, rfl, hK _ _ (hbI) fun hbI' => ?_⟩
        clear hK
        clear K
        simp only [Act.put, List.setIfInBounds_toArray, List.set_cons_succ, List.set_cons_zero]
        refine seqL_pre 2 (by kernel_rfl) ?_
        simp only [List.take_succ_cons, List.take_zero, List.drop_succ_cons, List.drop_zero]
        repeat (go_big_quiet_step (fail))
        refine wpQuiet_nil ?_
        refine seqL_nil ?_
        have HBI := Lib.hid hbI'
        have HBD' := Lib.hid hBD
        clear hinfX hinfH kD kHD hbE hbF hbF' hbG hbG' hbH hbH' hbI hbI' hBD hBC hBB hBA hBz hB
        go_wp2
        go_meet
        exact ⟨rfl, HBI.out⟩
    obtain ⟨rfl, hbx⟩ := hcut
    obtain ⟨wJ, rfl⟩ : ∃ wJ, wJ = wc := ⟨_, rfl⟩
    have hzJ := hbx.size
    have HKJ := Lib.hid (HKD.out.below hbx HKD.out.lt)
    have HMJ := Lib.hid (HMD.out.below hbx)
    have HVJ := Lib.hid (HVD.out.below hbx)
    have HFJ : Hid (∀ y, (F y ∨ (wz.heap.size ≤ y ∧ y < wA.heap.size)) → w.heap.size ≤ y ∧ y < wJ.heap.size ∧ y ≠ gh ∧ y ≠ gq) := Lib.hid fun y hy => by have := HFD.out y hy; omega
    have HKQJ := Lib.hid (HKQD.out.below hbx HKQD.out.lt)
    have hBJ := hBD.trans (hbx.mono hBD.size)
    clear HKD HMD HVD HFD HKQD hBD hbx kD kHD
    go_wp2
    go_roundw
    case rel => exact ⟨i + 1, l2, _, _, _, by omega, by go_num, HKJ, HMJ, Lib.hid (by have := HVJ.out; rwa [show 2 + i + 1 = 2 + (i + 1) by omega] at this), HFJ, HKQJ, HEL2, hBJ⟩
    case measure => simp [intOf]; omega
end Go.Proofs.YtnlhjhpikjmoaaaGreatDoor
