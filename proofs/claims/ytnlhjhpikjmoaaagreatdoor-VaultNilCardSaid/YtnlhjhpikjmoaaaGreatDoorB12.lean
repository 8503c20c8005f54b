/- Contracts: (*wal.Log).Ring, Down, on a calm disk.
Contracts: (*Vault).Log. -/
import Derived.Test.YtnlhjhpikjmoaaaGreatDoorB9
import Derived.Lib.MinMax
import Derived.Test.YtnlhjhpikjmoaaaGreatDoorB5
namespace Go.Proofs.YtnlhjhpikjmoaaaGreatDoor
open Go.RowKit

set_option maxRecDepth 100000 in
set_option maxHeartbeats 1600000 in
theorem ringS_any {f : Nat → Prop} {w : World} {gl gd n T first : Nat} {sf us : List (List UInt8)} (h : LogS f w gl gd n T first sf us) (hn : n ≤ 65536) (hn3 : 3 ≤ n) :
    Calls Tryz.prog 40 #[.pointer (some ⟨gl, 0, none⟩)] w fun e w' => e = .returned (.tuple #[.int .i64 ((n : Int) - 2), .int .i64 (secSum (sf ++ us) : Int)]) ∧ Below w.heap.size w w' := by
  obtain ⟨l, d, rs, h1, h2, rfl⟩ := h
  have hg := h2.good
  have hr : ∀ w' : World, Below w.heap.size w w' → Calls Tryz.prog 70 #[.pointer (some ⟨gl, 0, none⟩)] w' fun e w2 => e = .returned (.int .i64 ((n : Int) - 2)) ∧ w2 = w' := fun w' hb => by
    have := ring_b (h1.below hb)
    rw [hg.1.kept] at this
    exact this
  have HR := Lib.hid hr
  obtain ⟨vr, vp, hbk, _⟩ := h1.cells
  have c7 : ∀ s : Later w, s.val.cell? ⟨gl, 7, none⟩ = some (.int .i64 (l.used : Int)) := Later.cell (hbk.cell 7)
  have HU := Lib.hid (show l.used = secSum (rs.map (·.2) ++ us) by rw [hg.1.sum, hg.2.2.2.1])
  have hz : decide ((n : Int) - 2 < 0) = false := decide_eq_false (by omega)
  have hmx : max ((n : Int) - 2) 0 = (n : Int) - 2 := by omega
  clear h1 h2 hg hr hbk
  go_enter Tryz.func40, Tryz.ntmps40
  go_upto_region 3 with fail
  refine wp_seqL [1] (by as_aux_lemma => kernel_rfl) (by as_aux_lemma => kernel_rfl) fun w2 hb2 => ?_
  refine seqL_pre 1 (by kernel_rfl) ?_
  simp only [List.take_succ_cons, List.take_zero, List.drop_succ_cons, List.drop_zero]
  repeat (go_big_quiet_step (fail))
  refine wpQuiet_nil ?_
  refine seqL_wild hb2 rfl rfl fun K hK => ?_
  unfold Gives
  go_simp
  refine (HR.out w2 hb2).mono ?_
  rintro e w3 ⟨rfl, rfl⟩
  refine ⟨_, rfl, hK _ _ ((Below.refl _ _)) fun hb3 => ?_⟩
  clear hK
  clear K
  simp only [Act.put, List.setIfInBounds_toArray, List.set_cons_succ, List.set_cons_zero]
  refine seqL_pre 7 (by kernel_rfl) ?_
  simp only [List.take_succ_cons, List.take_zero, List.drop_succ_cons, List.drop_zero]
  repeat (go_big_quiet_step (fail))
  refine wpQuiet_nil ?_
  refine seqL_nil ?_
  go_wp2
  refine bodyPost_ret (v := .tuple #[.int .i64 ((n : Int) - 2), .int .i64 (l.used : Int)]) ?_ rfl ⟨by rw [← HU.out], hb3⟩
  simp [results, Tryz.results40, Act.put, Sem.run_bind, Sem.run_pure, asAddr_ok, hmx]
set_option maxRecDepth 100000 in
set_option maxHeartbeats 1600000 in
theorem downS_any {f : Nat → Prop} {w : World} {gl gd n T first : Nat} {sf us : List (List UInt8)} (h : LogS f w gl gd n T first sf us) :
    Calls Tryz.prog 38 #[.pointer (some ⟨gl, 0, none⟩)] w fun e w' => e = .returned (.bool false) ∧ w' = w := by
  obtain ⟨l, d, rs, h1, h2, rfl⟩ := h
  have hdd := dDown_any h1.disk
  rw [h2.calm.down] at hdd
  have HD := Lib.hid hdd
  obtain ⟨vr, vp, hbk, _⟩ := h1.cells
  have c0 : w.cell? ⟨gl, 0, none⟩ = some (.pointer (some ⟨gd, 0, none⟩)) := hbk.cell 0
  have c1 : w.cell? ⟨gl, 1, none⟩ = some (.bool false) := by rw [← h2.dead]; exact hbk.cell 1
  clear h1 h2 hdd hbk
  go_enter Tryz.func38, Tryz.ntmps38
  go_wp2_with fail
  refine HD.out.mono ?_
  rintro e w1 ⟨rfl, rfl⟩
  go_wp2
  go_ret
  exact ⟨rfl, rfl⟩
theorem readyS_any {f : Nat → Prop} {w : World} {gl gd n T first : Nat} {sf us : List (List UInt8)} (h : LogS f w gl gd n T first sf us) :
    Calls Tryz.prog 57 #[.pointer (some ⟨gl, 0, none⟩)] w fun e w' => e = .returned (.int .i64 0) ∧ LogS f w' gl gd n T first sf us ∧ Kp (fun b => b ≠ gl) w w' := by
  obtain ⟨l, d, rs, h1, h2, rfl⟩ := h
  have hq : ¬ (l.dead || d.down) = true := by rw [h2.dead, h2.calm.down]; decide
  refine (ready_b h1).mono ?_
  rintro e w' ⟨rfl, hB, hK⟩
  refine ⟨by unfold rdyE; rw [if_neg hq], ⟨l, d, rs, ?_, h2, rfl⟩, hK⟩
  have : rdy l d = l := by unfold rdy; rw [if_neg hq]
  rw [this] at hB
  exact hB
set_option maxRecDepth 100000 in
set_option maxHeartbeats 1600000 in
/-- nothing goes back -/
theorem backS_any {f : Nat → Prop} {w : World} {gl gd n T first : Nat} {recs : List (List UInt8)} (h : LogS f w gl gd n T first recs []) (hf : f gl) (k : Nat) (hk : k = first + recs.length) :
    Calls Tryz.prog 35 #[.pointer (some ⟨gl, 0, none⟩), .int .u64 (k : Int)] w fun e w' => e = .returned (.int .i64 0) ∧ LogS f w' gl gd n T first recs [] ∧ Kp (fun x => ¬ f x) w w' := by
  have hnx := next_opU h.u
  rw [List.append_nil, ← hk] at hnx
  have HF := Lib.hid (first_opU h.u)
  have HN := Lib.hid hnx
  have HL := Lib.hid h
  have hfk : first ≤ k := by omega
  have HK := Lib.hid hk
  have z1 : decide (k < first) = false := decide_eq_false (by omega)
  have z2 : decide (k < k) = false := decide_eq_false (by omega)
  clear h hnx hk
  go_enter Tryz.func35, Tryz.ntmps35
  go_wp2_with fail
  refine HF.out.mono ?_
  rintro e w1 ⟨rfl, rfl⟩
  go_wp2_with fail
  refine HN.out.mono ?_
  rintro e w2 ⟨rfl, hB2⟩
  go_wp2_with fail
  refine (readyS_any (HL.out.below hB2)).mono ?_
  rintro e w3 ⟨rfl, hL3, hK3⟩
  have hn3 := next_opU hL3.u
  rw [List.append_nil, ← HK.out] at hn3
  have HN3 := Lib.hid hn3
  have HL3 := Lib.hid hL3
  have HK3 := Lib.hid hK3
  clear hn3 hL3 hK3
  go_wp2_with fail
  refine HN3.out.mono ?_
  rintro e w4 ⟨rfl, hB4⟩
  go_wp2
  go_ret
  exact ⟨rfl, HL3.out.below hB4, (Kp.of_below hB2).trans ((HK3.out.mono fun b hb e => hb (e ▸ hf)).trans (.of_below hB4))⟩
end Go.Proofs.YtnlhjhpikjmoaaaGreatDoor

namespace Go.Proofs.YtnlhjhpikjmoaaaGreatDoor
open Go.RowKit

set_option maxRecDepth 100000 in
set_option maxHeartbeats 3200000 in
theorem vlog_any {ok : Nat → Prop} {w : World} {gv : Nat} {pl vsd ves : Value} {l : VLog} (hb : Blk w gv 74 #[pl, .int .u64 (l.term : Int), .int .i64 l.vote, .int .u64 (l.si : Int), .int .u64 (l.st : Int), vsd, ves]) (hm : VLm ok w vsd ves l) (hn : l.es.length ≤ 1000000) :
    Calls Tryz.prog 17 #[.pointer (some ⟨gv, 0, none⟩)] w fun e w' => (∃ vsd' ves', e = .returned (.agg (vlCs l vsd' ves')) ∧ VLm (fun b => w.heap.size ≤ b) w' vsd' ves' l) ∧ Below w.heap.size w w' := by
  have HM := Lib.hid hm
  have HB := Lib.hid hb
  have hlt := hb.lt
  clear hm hb
  go_enter Tryz.func17, Tryz.ntmps17
  go_upto_region 3 with fail
  obtain ⟨g, hg⟩ : ∃ g, g = w.heap.size := ⟨_, rfl⟩
  refine name_world (fun w1 => Blk w1 g 30 #[.int .u64 0, .int .i64 0, .int .u64 0, .int .u64 0, .slice none 0 0, .slice none 0 0] ∧ Below g w w1 ∧ w1.heap.size = g + 1) ⟨by rw [hg]; exact Blk.new _ _ _, by rw [hg]; exact (Below.refl _ _).alloc (Nat.le_refl _) _, by rw [hg]; simp⟩ ?_
  rintro w1 ⟨k1, hB1, hz1⟩
  have kv := HB.out.below hB1 (by omega)
  have hm1 := HM.out.below (hg ▸ hB1)
  rw [← hg]
  have HG := Lib.hid hg
  have HK1 := Lib.hid k1
  have HO := Lib.hid (own_any hm1 hn)
  have HZ := Lib.hid hz1
  clear k1 hm1 hg hz1
  refine wp_region_split 3 ?_
  simp only [List.take_succ_cons, List.take_zero, List.drop_succ_cons, List.drop_zero]
  go_wp2
  show wpList _ _ _ _ _ _
  have hrg : w1.rangeAt gv 1 (vlCs l vsd ves).toList := kv.rangeW 1 _ fun j v hv => by
    match j, hv with
    | 0, hv => exact hv
    | 1, hv => exact hv
    | 2, hv => exact hv
    | 3, hv => exact hv
    | 4, hv => exact hv
    | 5, hv => exact hv
    | j + 6, hv => simp [vlCs] at hv
  refine wpList_ld (g := gv) (k := 1) (cs := vlCs l vsd ves) rfl rfl rfl hrg Tryz.underlying30 rfl Tryz.infoLog ?_
  clear hrg kv
  refine wpList_split 1 ?_
  simp only [List.take_succ_cons, List.take_zero, List.drop_succ_cons, List.drop_zero]
  go_wp2_with fail
  refine HO.out.mono ?_
  rintro e w2 ⟨⟨v2, e2, rfl, hm2⟩, hB2⟩
  obtain ⟨A2, c2, rfl, _⟩ := hm2.sd.form
  obtain ⟨A3, c3, rfl, _⟩ := hm2.es.form
  have hz2 := hB2.size
  have k2 := HK1.out.below hB2 (by have := HZ.out; omega)
  go_wp2
  show wpList _ _ _ _ _ _
  refine wpList_st rfl rfl (vlCs l (.slice A2 l.sd.length c2) (.slice A3 l.es.length c3)) rfl rfl k2 rfl Tryz.infoLog (vl_all _ _ _ _ _ _ _) ?_ rfl
  intro k9
  have hK9 : Kp (fun b => ¬ b = g) w2 (World.setCells w2 g 0 (vlCs l (.slice A2 l.sd.length c2) (.slice A3 l.es.length c3)).toList) := Kp.setCells (b := g) (fun _ h => h rfl) _ 0 (Kp.refl _ _)
  generalize hwz : World.setCells w2 g 0 (vlCs l (.slice A2 l.sd.length c2) (.slice A3 l.es.length c3)).toList = wz at k9 hK9 ⊢
  clear hwz
  have lv := k9.loadVar (P := Tryz.prog) Tryz.underlying30 rfl Tryz.infoLog
  go_wp2
  have hz1 := HZ.out
  have hBz : Below g w wz := (hB1.trans (hB2.mono (by omega))).trans (hK9.below (by omega) fun b hb => by omega)
  have hmz : VLm (fun b => g ≤ b) wz (.slice A2 l.sd.length c2) (.slice A3 l.es.length c3) l := ((hm2.mono (ok' := fun b => g + 1 ≤ b) fun b hb _ => by omega).kp (hK9.mono fun b (hb : g + 1 ≤ b) => by omega)).mono fun b hb _ => by omega
  refine bodyPost_ret (v := .agg (vlCs l (.slice A2 l.sd.length c2) (.slice A3 l.es.length c3))) ?_ rfl ⟨⟨_, _, rfl, by rw [← HG.out]; exact hmz⟩, by rw [← HG.out]; exact hBz⟩
  simp [results, Tryz.results17, Act.put, Sem.run_bind, Sem.run_pure, asAddr_ok, lv]
end Go.Proofs.YtnlhjhpikjmoaaaGreatDoor
