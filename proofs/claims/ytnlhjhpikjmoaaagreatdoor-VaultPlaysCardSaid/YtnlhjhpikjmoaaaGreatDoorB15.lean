/- Vault: how long things and records are. No walk.
Contracts: (*wal.Log).Ring, Down, on a calm disk.
Contracts: (*Vault).Log.
Contracts: vault.records.
Contracts: vault.as; (*Vault).read where there are no records.
Contracts: (*Vault).Put, on a calm disk. -/
import Derived.Test.YtnlhjhpikjmoaaaGreatDoorA9
import Derived.Test.YtnlhjhpikjmoaaaGreatDoorB9
import Derived.Lib.MinMax
import Derived.Test.YtnlhjhpikjmoaaaGreatDoorB5
import Derived.Test.YtnlhjhpikjmoaaaGreatDoorW4
import Derived.Test.YtnlhjhpikjmoaaaGreatDoorB10
namespace Go.Proofs.YtnlhjhpikjmoaaaGreatDoor
theorem rightE_data {top : Nat} : ∀ {l : List VEnt} {t i : Nat}, rightE top t i l = true → ∀ e ∈ l, e.data.length ≤ 32668
  | [], _, _, _, _, he => by simp at he
  | a :: r, t, i, h, e, he => by
    simp only [rightE, Bool.and_eq_true, decide_eq_true_eq] at h
    rcases List.mem_cons.1 he with rfl | he
    · exact h.2.2.2.1
    · exact rightE_data h.2.2.2.2 e he
theorem rightV_data {l : VLog} (h : rightV l = true) : l.sd.length ≤ 32668 ∧ ∀ e ∈ l.es, e.data.length ≤ 32668 := by
  simp only [rightV, Bool.and_eq_true, decide_eq_true_eq] at h
  exact ⟨h.2.2.2.1, rightE_data h.2.2.2.2.2.2⟩
theorem txtB_le (d : List UInt8) : (txtB d).length ≤ 10 + d.length := by
  unfold txtB
  rw [List.length_append]
  have := numB_len d.length
  omega
theorem backT_le {l : List VEnt} {n : Nat} : ∀ x ∈ backT l n, (encT x).length ≤ 20 := by
  intro x hx
  unfold backT at hx
  split at hx
  · rw [List.mem_singleton] at hx
    subst hx
    simp only [encT, List.length_append]
    have h1 := numB_len 5
    have h2 := numB_len (‹VEnt›).idx
    omega
  · simp at hx
theorem thingsV_le {f t : VLog} {kind : Th} (hk : kind = .beg ∨ kind = .fol) (ht : rightV t = true) : ∀ x ∈ (thingsV f t kind).map encT, x.length ≤ 32768 := by
  obtain ⟨h1, h2⟩ := rightV_data ht
  intro y hy
  obtain ⟨x, hx, rfl⟩ := List.mem_map.1 hy
  unfold thingsV at hx
  simp only [List.mem_append, List.mem_singleton] at hx
  have n0 := numB_len
  rcases hx with rfl | hx | hx | hx | hx | rfl
  · rcases hk with rfl | rfl
    · exact Nat.le_trans (n0 1) (by omega)
    · exact Nat.le_trans (n0 2) (by omega)
  · split at hx
    · simp at hx
    · rw [List.mem_singleton] at hx
      subst hx
      simp only [encT, List.length_append]
      have a1 := n0 3
      have a2 := n0 t.term
      have a3 := n0 t.vote.toNat
      omega
  · split at hx
    · simp at hx
    · rw [List.mem_singleton] at hx
      subst hx
      simp only [encT, List.length_append]
      have a1 := n0 4
      have a2 := n0 t.si
      have a3 := n0 t.st
      have a4 := txtB_le t.sd
      omega
  · exact Nat.le_trans (backT_le x hx) (by omega)
  · obtain ⟨e, he, rfl⟩ := List.mem_map.1 hx
    have := h2 e (List.mem_of_mem_drop he)
    simp only [encT, List.length_append]
    have a1 := n0 6
    have a2 := n0 e.term
    have a4 := txtB_le e.data
    omega
  · exact Nat.le_trans (n0 7) (by omega)
theorem packB_length (lim : Nat) : ∀ (ts : List (List UInt8)) (b : List UInt8), (packB lim b ts).length ≤ ts.length + 1
  | [], b => by simp [packB]
  | t :: r, b => by
    unfold packB
    split
    · have := packB_length lim r t
      simp only [List.length_cons]
      omega
    · have := packB_length lim r (b ++ t)
      simp only [List.length_cons]
      omega
theorem thingsV_length (f t : VLog) (kind : Th) : (thingsV f t kind).length ≤ t.es.length + 5 := by
  unfold thingsV
  have hb : ∀ (l : List VEnt) (n : Nat), (backT l n).length ≤ 1 := fun l n => by unfold backT; split <;> simp
  have hh : ∀ (p : Prop) [Decidable p] (x : Th), (if p then [] else [x]).length ≤ 1 := fun p _ x => by split <;> simp
  simp only [List.length_append, List.length_singleton, List.length_map, List.length_drop]
  have h1 := hb (if f.si = t.si ∧ f.st = t.st ∧ f.sd = t.sd then f else changeV f t.si t.st t.sd).es (comN (if f.si = t.si ∧ f.st = t.st ∧ f.sd = t.sd then f else changeV f t.si t.st t.sd).es t.es)
  have h2 := hh (f.term = t.term ∧ f.vote = t.vote) (.hard t.term t.vote.toNat)
  have h3 := hh (f.si = t.si ∧ f.st = t.st ∧ f.sd = t.sd) (.snap t.si t.st t.sd)
  omega
theorem recordsV_length (f t : VLog) (kind : Th) : (recordsV f t kind).length ≤ t.es.length + 6 := by
  unfold recordsV
  have h1 := packB_length 32768 ((thingsV f t kind).map encT) []
  have h2 := thingsV_length f t kind
  rw [List.length_map] at h1
  omega
theorem recordsV_le {f t : VLog} {kind : Th} (hk : kind = .beg ∨ kind = .fol) (ht : rightV t = true) : ∀ r ∈ recordsV f t kind, r.length ≤ 32768 :=
  packB_le 32768 _ [] (by simp) (thingsV_le hk ht)
end Go.Proofs.YtnlhjhpikjmoaaaGreatDoor
namespace Go.Proofs.YtnlhjhpikjmoaaaGreatDoor
open Go.RowKit
set_option maxRecDepth 100000 in
set_option maxHeartbeats 1600000 in
theorem ringS_any {f : Nat → Prop} {w : World} {gl gd n T first : Nat} {sf us : List (List UInt8)} (h : LogS f w gl gd n T first sf us) (hn : n ≤ 65536) (hn3 : 3 ≤ n) :
    Calls Tryz.prog 40 #[.pointer (some ⟨gl, 0, none⟩)] w fun e w' => e = .returned (.tuple #[.int .i64 ((n : Int) - 2), .int .i64 (secSum (sf ++ us) : Int)]) ∧ Below w.heap.size w w' := by
  obtain ⟨l, d, rs, h1, h2, rfl⟩ := h
  have hg := h2.good
  have hr : ∀ w' : World, Below w.heap.size w w' → Calls Tryz.prog 70 #[.pointer (some ⟨gl, 0, none⟩)] w' fun e w2 => e = .returned (.int .i64 ((n : Int) - 2)) ∧ w2 = w' := fun w' hb => by
    have := ring_b (h1.below hb)
    rw [hg.1.kept] at this
    exact this
  have HR := Lib.hid hr
  obtain ⟨vr, vp, hbk, _⟩ := h1.cells
  have c7 : ∀ s : Later w, s.val.cell? ⟨gl, 7, none⟩ = some (.int .i64 (l.used : Int)) := Later.cell (hbk.cell 7)
  have HU := Lib.hid (show l.used = secSum (rs.map (·.2) ++ us) by rw [hg.1.sum, hg.2.2.2.1])
  have hz : decide ((n : Int) - 2 < 0) = false := decide_eq_false (by omega)
  have hmx : max ((n : Int) - 2) 0 = (n : Int) - 2 := by omega
  clear h1 h2 hg hr hbk
  go_enter Tryz.func40, Tryz.ntmps40
  go_upto_region 3 with fail
  refine wp_seqL [1] (by as_aux_lemma => kernel_rfl) (by as_aux_lemma => kernel_rfl) fun w2 hb2 => ?_
  refine seqL_pre 1 (by kernel_rfl) ?_
  simp only [List.take_succ_cons, List.take_zero, List.drop_succ_cons, List.drop_zero]
  repeat (go_big_quiet_step (fail))
  refine wpQuiet_nil ?_
  refine seqL_wild hb2 rfl rfl fun K hK => ?_
  unfold Gives
  go_simp
  refine (HR.out w2 hb2).mono ?_
  rintro e w3 ⟨rfl, rfl⟩
  refine ⟨_, rfl, hK _ _ ((Below.refl _ _)) fun hb3 => ?_⟩
  clear hK
  clear K
  simp only [Act.put, List.setIfInBounds_toArray, List.set_cons_succ, List.set_cons_zero]
  refine seqL_pre 7 (by kernel_rfl) ?_
  simp only [List.take_succ_cons, List.take_zero, List.drop_succ_cons, List.drop_zero]
  repeat (go_big_quiet_step (fail))
  refine wpQuiet_nil ?_
  refine seqL_nil ?_
  go_wp2
  refine bodyPost_ret (v := .tuple #[.int .i64 ((n : Int) - 2), .int .i64 (l.used : Int)]) ?_ rfl ⟨by rw [← HU.out], hb3⟩
  simp [results, Tryz.results40, Act.put, Sem.run_bind, Sem.run_pure, asAddr_ok, hmx]
set_option maxRecDepth 100000 in
set_option maxHeartbeats 1600000 in
theorem downS_any {f : Nat → Prop} {w : World} {gl gd n T first : Nat} {sf us : List (List UInt8)} (h : LogS f w gl gd n T first sf us) :
    Calls Tryz.prog 38 #[.pointer (some ⟨gl, 0, none⟩)] w fun e w' => e = .returned (.bool false) ∧ w' = w := by
  obtain ⟨l, d, rs, h1, h2, rfl⟩ := h
  have hdd := dDown_any h1.disk
  rw [h2.calm.down] at hdd
  have HD := Lib.hid hdd
  obtain ⟨vr, vp, hbk, _⟩ := h1.cells
  have c0 : w.cell? ⟨gl, 0, none⟩ = some (.pointer (some ⟨gd, 0, none⟩)) := hbk.cell 0
  have c1 : w.cell? ⟨gl, 1, none⟩ = some (.bool false) := by rw [← h2.dead]; exact hbk.cell 1
  clear h1 h2 hdd hbk
  go_enter Tryz.func38, Tryz.ntmps38
  go_wp2_with fail
  refine HD.out.mono ?_
  rintro e w1 ⟨rfl, rfl⟩
  go_wp2
  go_ret
  exact ⟨rfl, rfl⟩
theorem readyS_any {f : Nat → Prop} {w : World} {gl gd n T first : Nat} {sf us : List (List UInt8)} (h : LogS f w gl gd n T first sf us) :
    Calls Tryz.prog 57 #[.pointer (some ⟨gl, 0, none⟩)] w fun e w' => e = .returned (.int .i64 0) ∧ LogS f w' gl gd n T first sf us ∧ Kp (fun b => b ≠ gl) w w' := by
  obtain ⟨l, d, rs, h1, h2, rfl⟩ := h
  have hq : ¬ (l.dead || d.down) = true := by rw [h2.dead, h2.calm.down]; decide
  refine (ready_b h1).mono ?_
  rintro e w' ⟨rfl, hB, hK⟩
  refine ⟨by unfold rdyE; rw [if_neg hq], ⟨l, d, rs, ?_, h2, rfl⟩, hK⟩
  have : rdy l d = l := by unfold rdy; rw [if_neg hq]
  rw [this] at hB
  exact hB
set_option maxRecDepth 100000 in
set_option maxHeartbeats 1600000 in
theorem backS_any {f : Nat → Prop} {w : World} {gl gd n T first : Nat} {recs : List (List UInt8)} (h : LogS f w gl gd n T first recs []) (hf : f gl) (k : Nat) (hk : k = first + recs.length) :
    Calls Tryz.prog 35 #[.pointer (some ⟨gl, 0, none⟩), .int .u64 (k : Int)] w fun e w' => e = .returned (.int .i64 0) ∧ LogS f w' gl gd n T first recs [] ∧ Kp (fun x => ¬ f x) w w' := by
  have hnx := next_opU h.u
  rw [List.append_nil, ← hk] at hnx
  have HF := Lib.hid (first_opU h.u)
  have HN := Lib.hid hnx
  have HL := Lib.hid h
  have hfk : first ≤ k := by omega
  have HK := Lib.hid hk
  have z1 : decide (k < first) = false := decide_eq_false (by omega)
  have z2 : decide (k < k) = false := decide_eq_false (by omega)
  clear h hnx hk
  go_enter Tryz.func35, Tryz.ntmps35
  go_wp2_with fail
  refine HF.out.mono ?_
  rintro e w1 ⟨rfl, rfl⟩
  go_wp2_with fail
  refine HN.out.mono ?_
  rintro e w2 ⟨rfl, hB2⟩
  go_wp2_with fail
  refine (readyS_any (HL.out.below hB2)).mono ?_
  rintro e w3 ⟨rfl, hL3, hK3⟩
  have hn3 := next_opU hL3.u
  rw [List.append_nil, ← HK.out] at hn3
  have HN3 := Lib.hid hn3
  have HL3 := Lib.hid hL3
  have HK3 := Lib.hid hK3
  clear hn3 hL3 hK3
  go_wp2_with fail
  refine HN3.out.mono ?_
  rintro e w4 ⟨rfl, hB4⟩
  go_wp2
  go_ret
  exact ⟨rfl, HL3.out.below hB4, (Kp.of_below hB2).trans ((HK3.out.mono fun b hb e => hb (e ▸ hf)).trans (.of_below hB4))⟩
end Go.Proofs.YtnlhjhpikjmoaaaGreatDoor
namespace Go.Proofs.YtnlhjhpikjmoaaaGreatDoor
open Go.RowKit
set_option maxRecDepth 100000 in
set_option maxHeartbeats 3200000 in
theorem vlog_any {ok : Nat → Prop} {w : World} {gv : Nat} {pl vsd ves : Value} {l : VLog} (hb : Blk w gv 74 #[pl, .int .u64 (l.term : Int), .int .i64 l.vote, .int .u64 (l.si : Int), .int .u64 (l.st : Int), vsd, ves]) (hm : VLm ok w vsd ves l) (hn : l.es.length ≤ 1000000) :
    Calls Tryz.prog 17 #[.pointer (some ⟨gv, 0, none⟩)] w fun e w' => (∃ vsd' ves', e = .returned (.agg (vlCs l vsd' ves')) ∧ VLm (fun b => w.heap.size ≤ b) w' vsd' ves' l) ∧ Below w.heap.size w w' := by
  have HM := Lib.hid hm
  have HB := Lib.hid hb
  have hlt := hb.lt
  clear hm hb
  go_enter Tryz.func17, Tryz.ntmps17
  go_upto_region 3 with fail
  obtain ⟨g, hg⟩ : ∃ g, g = w.heap.size := ⟨_, rfl⟩
  refine name_world (fun w1 => Blk w1 g 30 #[.int .u64 0, .int .i64 0, .int .u64 0, .int .u64 0, .slice none 0 0, .slice none 0 0] ∧ Below g w w1 ∧ w1.heap.size = g + 1) ⟨by rw [hg]; exact Blk.new _ _ _, by rw [hg]; exact (Below.refl _ _).alloc (Nat.le_refl _) _, by rw [hg]; simp⟩ ?_
  rintro w1 ⟨k1, hB1, hz1⟩
  have kv := HB.out.below hB1 (by omega)
  have hm1 := HM.out.below (hg ▸ hB1)
  rw [← hg]
  have HG := Lib.hid hg
  have HK1 := Lib.hid k1
  have HO := Lib.hid (own_any hm1 hn)
  have HZ := Lib.hid hz1
  clear k1 hm1 hg hz1
  refine wp_region_split 3 ?_
  simp only [List.take_succ_cons, List.take_zero, List.drop_succ_cons, List.drop_zero]
  go_wp2
  show wpList _ _ _ _ _ _
  have hrg : w1.rangeAt gv 1 (vlCs l vsd ves).toList := kv.rangeW 1 _ fun j v hv => by
    match j, hv with
    | 0, hv => exact hv
    | 1, hv => exact hv
    | 2, hv => exact hv
    | 3, hv => exact hv
    | 4, hv => exact hv
    | 5, hv => exact hv
    | j + 6, hv => simp [vlCs] at hv
  refine wpList_ld (g := gv) (k := 1) (cs := vlCs l vsd ves) rfl rfl rfl hrg Tryz.underlying30 rfl Tryz.infoLog ?_
  clear hrg kv
  refine wpList_split 1 ?_
  simp only [List.take_succ_cons, List.take_zero, List.drop_succ_cons, List.drop_zero]
  go_wp2_with fail
  refine HO.out.mono ?_
  rintro e w2 ⟨⟨v2, e2, rfl, hm2⟩, hB2⟩
  obtain ⟨A2, c2, rfl, _⟩ := hm2.sd.form
  obtain ⟨A3, c3, rfl, _⟩ := hm2.es.form
  have hz2 := hB2.size
  have k2 := HK1.out.below hB2 (by have := HZ.out; omega)
  go_wp2
  show wpList _ _ _ _ _ _
  refine wpList_st rfl rfl (vlCs l (.slice A2 l.sd.length c2) (.slice A3 l.es.length c3)) rfl rfl k2 rfl Tryz.infoLog (vl_all _ _ _ _ _ _ _) ?_ rfl
  intro k9
  have hK9 : Kp (fun b => ¬ b = g) w2 (World.setCells w2 g 0 (vlCs l (.slice A2 l.sd.length c2) (.slice A3 l.es.length c3)).toList) := Kp.setCells (b := g) (fun _ h => h rfl) _ 0 (Kp.refl _ _)
  generalize hwz : World.setCells w2 g 0 (vlCs l (.slice A2 l.sd.length c2) (.slice A3 l.es.length c3)).toList = wz at k9 hK9 ⊢
  clear hwz
  have lv := k9.loadVar (P := Tryz.prog) Tryz.underlying30 rfl Tryz.infoLog
  go_wp2
  have hz1 := HZ.out
  have hBz : Below g w wz := (hB1.trans (hB2.mono (by omega))).trans (hK9.below (by omega) fun b hb => by omega)
  have hmz : VLm (fun b => g ≤ b) wz (.slice A2 l.sd.length c2) (.slice A3 l.es.length c3) l := ((hm2.mono (ok' := fun b => g + 1 ≤ b) fun b hb _ => by omega).kp (hK9.mono fun b (hb : g + 1 ≤ b) => by omega)).mono fun b hb _ => by omega
  refine bodyPost_ret (v := .agg (vlCs l (.slice A2 l.sd.length c2) (.slice A3 l.es.length c3))) ?_ rfl ⟨⟨_, _, rfl, by rw [← HG.out]; exact hmz⟩, by rw [← HG.out]; exact hBz⟩
  simp [results, Tryz.results17, Act.put, Sem.run_bind, Sem.run_pure, asAddr_ok, lv]
end Go.Proofs.YtnlhjhpikjmoaaaGreatDoor
namespace Go.Proofs.YtnlhjhpikjmoaaaGreatDoor
open Go.RowKit
theorem rightV_si {l : VLog} (h : rightV l = true) : l.si ≤ 4611686018427387904 := by
  simp only [rightV, Bool.and_eq_true, decide_eq_true_eq] at h
  exact h.2.2.1
set_option maxRecDepth 100000 in
set_option maxHeartbeats 3200000 in
theorem vrecs_any {ok : Nat → Prop} {w : World} {vsd ves usd ues : Value} {f t : VLog} (h1 : VLm ok w vsd ves f) (h2 : VLm ok w usd ues t) (kd : Nat) (hk : kd = 1 ∨ kd = 2) (ht : rightV t = true) (hn1 : f.es.length ≤ 1000000) (hn2 : t.es.length ≤ 100000) :
    Calls Tryz.prog 41 #[.agg (vlCs f vsd ves), .agg (vlCs t usd ues), .int .u64 (kd : Int)] w fun e w' => (∃ v, e = .returned v ∧ RSl rBs (fun b => w.heap.size ≤ b) w' v (recordsV f t (if kd = 1 then .beg else .fol))) ∧ Below w.heap.size w w' := by
  have hkd : (if kd = 1 then Th.beg else Th.fol) = .beg ∨ (if kd = 1 then Th.beg else Th.fol) = .fol := by split <;> simp
  have hts : ∀ x ∈ (thingsV f t (if kd = 1 then .beg else .fol)).map encT, x.length ≤ 32768 := thingsV_le hkd ht
  have htl : ((thingsV f t (if kd = 1 then .beg else .fol)).map encT).length ≤ 100005 := by
    rw [List.length_map]
    have := thingsV_length f t (if kd = 1 then .beg else .fol)
    omega
  have HTH := Lib.hid (fun (w' : World) (hb : Below w.heap.size w w') => things_any (h1.below hb) (h2.below hb) kd hk (rightV_si ht) (by have := (rightV_data ht).1; omega) (rightV_vote ht).1 hn1 (by omega) fun e he => by have := (rightV_data ht).2 e he; omega)
  obtain ⟨ts, hTS⟩ : ∃ ts, ts = (thingsV f t (if kd = 1 then .beg else .fol)).map encT := ⟨_, rfl⟩
  obtain ⟨R, hR⟩ : ∃ R, R = recordsV f t (if kd = 1 then .beg else .fol) := ⟨_, rfl⟩
  have HRR := Lib.hid (show R = packB 32768 [] ts by rw [hR, recordsV, hTS])
  rw [← hR]
  rw [← hTS] at hts htl HTH
  have HTS := Lib.hid hts
  obtain ⟨As, cs, rfl, _, _⟩ := h1.sd.form
  obtain ⟨Ae, ce, rfl, _, _⟩ := h1.es.form
  obtain ⟨Bs, ds, rfl, _, _⟩ := h2.sd.form
  obtain ⟨Be, de, rfl, _, _⟩ := h2.es.form
  clear hts hTS hR hkd hn1 hn2 h1 h2 hk ht
  go_enter Tryz.func41, Tryz.ntmps41
  go_upto_region 1 with fail
  obtain ⟨g, hg⟩ : ∃ g, g = w.heap.size := ⟨_, rfl⟩
  refine name_world (fun w1 => Blk w1 g 30 (vlCs f (.slice As f.sd.length cs) (.slice Ae f.es.length ce)) ∧ Blk w1 (g + 1) 30 (vlCs t (.slice Bs t.sd.length ds) (.slice Be t.es.length de)) ∧ Below g w w1 ∧ g + 2 ≤ w1.heap.size) ⟨by rw [hg]; exact (Blk.new _ _ _).alloc _, by rw [hg]; exact Blk.new_ (by simp), by rw [hg]; exact ((Below.refl _ _).alloc (Nat.le_refl _) _).alloc (by simp) _, by rw [hg]; simp⟩ ?_
  rintro w1 ⟨k1, k2, hB1, hz1⟩
  have HT1 := Lib.hid (HTH.out w1 (hg ▸ hB1))
  rw [← hg]
  have HG := Lib.hid hg
  clear hg HTH
  go_upto_region 3 with fail
  refine wp_region_lit ?_
  refine wpList_ld (g := g) (k := 0) (cs := vlCs f (.slice As f.sd.length cs) (.slice Ae f.es.length ce)) rfl rfl rfl k1.range Tryz.underlying30 rfl Tryz.infoLog ?_
  refine wpList_ld (g := g + 1) (k := 0) (cs := vlCs t (.slice Bs t.sd.length ds) (.slice Be t.es.length de)) rfl rfl rfl k2.range Tryz.underlying30 rfl Tryz.infoLog ?_
  clear k1 k2
  go_wp2_with fail
  refine HT1.out.mono ?_
  rintro e w3 ⟨⟨v3, rfl, hv3⟩, hB3⟩
  obtain ⟨A3, c3, rfl, hc3, _⟩ := hv3.form
  obtain ⟨n, hn⟩ : ∃ n, n = ts.length := ⟨_, rfl⟩
  rw [← hn] at hv3 hc3 htl ⊢
  have HN := Lib.hid hn
  have HV := Lib.hid (hv3.mono (by decide) (ok' := fun b => b < w3.heap.size) fun b _ hb => hb)
  have hz3 := hB3.size
  clear hv3 HT1 hn
  go_upto_region 4 with fail
  go_loopw [7, 8, 16] (fun vl vb vi wr => ∃ (i ln c m c2 : Nat) (A A2 : Option Addr) (w2 : World) (done : List (List UInt8)) (cur : List UInt8), i ≤ n ∧ vi = .int .i64 (i : Int) ∧ vl = .slice A ln c ∧ vb = .slice A2 m c2 ∧ ln ≤ i ∧ m ≤ 32768 ∧ Hid (OwnL rBs (fun b => w3.heap.size ≤ b) w3.heap.size 25 w2 (.slice A ln c) done) ∧ Below w3.heap.size w3 w2 ∧ Below w2.heap.size w2 wr ∧ Hid (OwnB w2.heap.size wr A2 m c2 cur) ∧ Hid (R = done ++ packB 32768 cur (ts.drop i))) (fun _ _ vi _ => n - (intOf vi).toNat)
  case atStart => exact ⟨0, 0, 0, 0, 0, none, none, w3, [], [], by omega, rfl, rfl, rfl, by omega, by omega, Lib.hid (OwnL.nil_ _ _ _ _ _), Below.refl _ _, Below.refl _ _, Lib.hid (OwnB.nil_ _ _), Lib.hid HRR.out⟩
  case round =>
    obtain ⟨i, ln, c, m, c2, A, A2, w2, done, cur, hi, rfl, rfl, rfl, hln, hm, HO, hB2, hBr, HW, HP⟩ := hrel
    have hB3r := hB2.trans (hBr.mono hB2.size)
    have hlen := OwnL.form HO.out
    have hdl : done.length = ln := by
      obtain ⟨_, _, he, _⟩ := hlen
      simp only [Value.slice.injEq] at he
      omega
    have hlc := HW.out.len
    have HDL := Lib.hid hdl
    have HLC := Lib.hid hlc
    clear hlen hdl hlc
    by_cases hlt : i < n
    · have hil : i < ts.length := by rw [← HN.out]; exact hlt
      obtain ⟨b5, off5, c5, cs5, hv5, _, ⟨v5, rfl, hr5⟩, hcell5⟩ := (HV.out.kp (.of_belowB hB3r fun b hb _ => hb)).at_ hil
      rw [← HN.out] at hv5
      obtain ⟨rfl, rfl⟩ : A3 = some ⟨b5, off5, none⟩ ∧ c3 = c5 := by simpa using hv5
      obtain ⟨x, hx⟩ : ∃ x, x = ts[i] := ⟨_, rfl⟩
      have hx3 : x.length ≤ 32768 := by rw [hx]; exact HTS.out _ (List.getElem_mem _)
      have hdr : ts.drop i = x :: ts.drop (i + 1) := by rw [hx]; exact List.drop_eq_getElem_cons hil
      rw [← hx] at hr5
      obtain ⟨A5, d5, rfl, _, _, hrd5, _⟩ := hr5.open_
      obtain ⟨k, hk⟩ : ∃ k, k = x.length := ⟨_, rfl⟩
      rw [← hk] at hcell5 hrd5 hx3
      have q5 : wr.cell? ⟨b5, off5 + i * 1, none⟩ = some (.slice A5 k d5) := hcell5 0 _ rfl
      have q6 : wr.cell? ⟨b5, off5 + i, none⟩ = some (.slice A5 k d5) := by simpa using q5
      have HK := Lib.hid hk
      have HRD := Lib.hid hrd5
      have HR5 := Lib.hid hr5
      by_cases hov : 32768 < m + k
      · have z1 : decide (32768 < (m : Int) + (k : Int)) = true := decide_eq_true (by omega)
        have z2 : decide (32768 < m + k) = true := decide_eq_true (by omega)
        have HP2 := Lib.hid (show R = (done ++ [cur]) ++ packB 32768 x (ts.drop (i + 1)) by
          rw [HP.out, hdr, packB, if_pos (by rw [HLC.out, ← HK.out]; omega)]
          simp)
        clear hcell5 hv5 hk hx hdr hrd5 hr5 HP
        have hOlt := HO.out.lt
        have hOr := HO.out.below hBr
        have hzr := hBr.size
        have hz32 := hB2.size
        have hbo : rBs.rel (fun b => w3.heap.size ≤ b ∧ some b ≠ (Value.slice A ln c).ownBlock) wr [.slice A2 m c2] cur := ⟨_, rfl, by
          have := (HW.out.rb (by omega)).mono (by decide) (ok' := fun b => w3.heap.size ≤ b ∧ some b ≠ (Value.slice A ln c).ownBlock) fun b hb _ => ⟨by omega, fun h => by have := (hOlt b h.symm).2; omega⟩
          rw [← HLC.out] at this ⊢
          exact this⟩
        go_upto_region 8 with (at_builtin; go_loud (refine wp_app1 (E := rBs) (okd := fun b => w3.heap.size ≤ b) Tryz.rowBs (by decide) rfl _ _ rfl (.slice A ln c) done wr #[.slice A2 m c2] cur rfl hOr rfl hbo (by rw [HDL.out]; show (ln + 1) * 24 ≤ _; omega) (by rw [HDL.out]; omega) (by omega) ?_); intro v' w5 ho5 hk5 hloc5)
        obtain ⟨A6, c6, rfl, hc6⟩ := ho5.form
        have hl6 : (done ++ [cur]).length = ln + 1 := by rw [List.length_append, HDL.out]; rfl
        rw [hl6] at ho5 ⊢
        have hB5 : Below w3.heap.size w3 w5 := hB3r.trans (hk5.below (by omega) fun b hb h => by have := (hOlt b h.symm).1; omega)
        have hB5r : Kp (fun b => b < w3.heap.size) wr w5 := .mono hk5 fun b hb h => by have := (hOlt b h.symm).1; omega
        have hrd5 : Rd w5 1 A5 k (bs x) := by
          obtain ⟨A8, d8, he8, _, _, hrd8, _⟩ := (show RB _ w5 _ x from RSl.kp hB5r HR5.out).open_
          simp only [Value.slice.injEq] at he8
          obtain ⟨rfl, _, _⟩ := he8
          rw [HK.out]
          exact hrd8
        have HRD5 := Lib.hid hrd5
        clear hrd5 hB5r
        go_wp2_with (at_builtin; refine wp_append_bytes rfl _ _ rfl w5.heap.size none 0 0 [] w5 rfl (OwnB.nil_ _ _) A5 k d5 x rfl HRD5.out (by omega) (Nat.le_refl _) ?_; intro A7 c7 w7 hown7 hb7)
        go_roundw
        case rel => exact ⟨i + 1, ln + 1, c6, k, c7, A6, A7, w5, done ++ [cur], x, by omega, by go_num, rfl, rfl, by omega, by omega, Lib.hid ho5, hB5, hb7, Lib.hid (by simpa using hown7), HP2⟩
        case measure => simp [intOf]; omega
      · have z1 : decide (32768 < (m : Int) + (k : Int)) = false := decide_eq_false (by omega)
        have z2 : decide (32768 < m + k) = false := decide_eq_false (by omega)
        have HP2 := Lib.hid (show R = done ++ packB 32768 (cur ++ x) (ts.drop (i + 1)) by
          rw [HP.out, hdr, packB, if_neg (by rw [HLC.out, ← HK.out]; omega)])
        clear hcell5 hv5 hk hx hdr hrd5 hr5 HP
        go_wp2_with (at_builtin; refine wp_append_bytes rfl _ _ rfl w2.heap.size A2 m c2 cur wr rfl HW.out A5 k d5 x rfl HRD.out (by omega) hBr.size ?_; intro A7 c7 w7 hown7 hb7)
        go_roundw
        case rel => exact ⟨i + 1, ln, c, m + k, c7, A, A7, w2, done, cur ++ x, by omega, by go_num, rfl, rfl, by omega, by omega, HO, hB2, hBr.trans hb7, Lib.hid hown7, HP2⟩
        case measure => simp [intOf]; omega
    · obtain rfl : i = n := by omega
      have HP2 := Lib.hid (show R = done ++ [cur] by rw [HP.out, List.drop_of_length_le (by rw [← HN.out]; omega), packB])
      clear HP
      have hOlt := HO.out.lt
      have hOr := HO.out.below hBr
      have hzr := hBr.size
      have hz32 := hB2.size
      have hbo : rBs.rel (fun b => w3.heap.size ≤ b ∧ some b ≠ (Value.slice A ln c).ownBlock) wr [.slice A2 m c2] cur := ⟨_, rfl, by
        have := (HW.out.rb (by omega)).mono (by decide) (ok' := fun b => w3.heap.size ≤ b ∧ some b ≠ (Value.slice A ln c).ownBlock) fun b hb _ => ⟨by omega, fun h => by have := (hOlt b h.symm).2; omega⟩
        rw [← HLC.out] at this ⊢
        exact this⟩
      go_wp2_with (at_builtin; go_loud (refine wp_app1 (E := rBs) (okd := fun b => w3.heap.size ≤ b) Tryz.rowBs (by decide) rfl _ _ rfl (.slice A ln c) done wr #[.slice A2 m c2] cur rfl hOr rfl hbo (by rw [HDL.out]; show (ln + 1) * 24 ≤ _; omega) (by rw [HDL.out]; omega) (by omega) ?_); intro v' w5 ho5 hk5 hloc5)
      go_ret
      have hB5 : Below w3.heap.size w3 w5 := hB3r.trans (hk5.below (by omega) fun b hb h => by have := (hOlt b h.symm).1; omega)
      refine ⟨⟨v', rfl, ?_⟩, by rw [← HG.out]; exact (hB1.trans (hB3.mono (by omega))).trans (hB5.mono (by omega))⟩
      rw [HP2.out, ← HG.out]
      exact ho5.rsl (by decide) (by rw [List.length_append, HDL.out]; show (ln + 1) * 24 ≤ _; omega) (fun b hb => by omega) fun b hb => by omega
end Go.Proofs.YtnlhjhpikjmoaaaGreatDoor
namespace Go.Proofs.YtnlhjhpikjmoaaaGreatDoor
open Go.RowKit
theorem as_any (c : Int) (hc : c ≠ 0) (w : World) : Calls Tryz.prog 32 #[.int .i64 c] w fun e w' => (∃ v, e = .returned v ∧ ErrV 2 w' v c) ∧ Below w.heap.size w w' := by
  have hn : Calls Tryz.prog 45 #[.int .i64 c, .string { data := #[108, 111, 103] }] w fun e w' => (∃ v, e = .returned v ∧ ErrV 1 w' v c ∧ ∃ b, v = .iface 113 (.pointer (some ⟨b, 0, none⟩))) ∧ Below w.heap.size w w' := by
    have z1 : (c == 0) = false := by rw [beq_eq_false_iff_ne]; exact hc
    go_enter Tryz.func45, Tryz.ntmps45
    go_wp2
    go_ret
    exact ⟨⟨_, rfl, ⟨_, _, _, rfl, Blk.new _ _ _, rfl⟩, _, rfl⟩, (Below.refl _ _).alloc (Nat.le_refl _) _⟩
  have HN := Lib.hid hn
  clear hn
  go_enter Tryz.func32, Tryz.ntmps32
  go_wp2_with fail
  refine HN.out.mono ?_
  rintro e w1 ⟨⟨v1, rfl, hv1, b1, rfl⟩, hB1⟩
  have HV := Lib.hid hv1
  have hw : Calls Tryz.prog 34 #[.iface 113 (.pointer (some ⟨b1, 0, none⟩)), .string { data := #[118, 97, 117, 108, 116] }] w1 fun e w' => (∃ v, e = .returned v ∧ ErrV 2 w' v c) ∧ Below w1.heap.size w1 w' := by
    go_enter Tryz.func34, Tryz.ntmps34
    go_wp2
    go_ret
    have hB : Below w1.heap.size w1 (w1.alloc (.cells #[.string { data := #[118, 97, 117, 108, 116] }, .iface 113 (.pointer (some ⟨b1, 0, none⟩))] 115)) := (Below.refl _ _).alloc (Nat.le_refl _) _
    exact ⟨⟨_, rfl, _, _, _, rfl, Blk.new _ _ _, HV.out.below hB⟩, hB⟩
  have HW := Lib.hid hw
  clear hw hv1
  go_wp2_with fail
  refine HW.out.mono ?_
  rintro e w2 ⟨⟨v2, rfl, hv2⟩, hB2⟩
  have HV2 := Lib.hid hv2
  clear hv2
  go_wp2
  go_ret
  exact ⟨⟨_, rfl, HV2.out⟩, hB1.trans (hB2.mono hB1.size)⟩
set_option maxRecDepth 100000 in
set_option maxHeartbeats 1600000 in
theorem read_nil {f : Nat → Prop} {w : World} {gv gl gd n T first : Nat} (hv : w.cell? ⟨gv, 0, none⟩ = some (.pointer (some ⟨gl, 0, none⟩))) (h : LogS f w gl gd n T first [] []) :
    Calls Tryz.prog 33 #[.pointer (some ⟨gv, 0, none⟩)] w fun e w' => e = .returned (.tuple #[.int .u64 (first : Int), .int .u64 (first : Int), .nilIface]) ∧ Below w.heap.size w w' := by
  have HF := Lib.hid (first_opU h.u)
  have HR := Lib.hid (fun (w' : World) (hb : Below w.heap.size w w') => records_opU (h.below hb).u)
  have hlt := World.block_lt_of_cell? w _ hv
  have HV := Lib.hid hv
  clear h
  go_enter Tryz.func33, Tryz.ntmps33
  go_wp2_with fail
  refine HF.out.mono ?_
  rintro e w1 ⟨rfl, rfl⟩
  clear hv
  go_upto_region 4 with fail
  obtain ⟨g, hg⟩ : ∃ g, g = w1.heap.size := ⟨_, rfl⟩
  refine name_world (fun w2 => Below w1.heap.size w1 w2) ((Below.refl _ _).alloc (Nat.le_refl _) _) ?_
  rintro w2 hB2
  have hv2 : w2.cell? ⟨gv, 0, none⟩ = some (.pointer (some ⟨gl, 0, none⟩)) := (hB2.cell (p := ⟨gv, 0, none⟩) hlt).trans HV.out
  rw [← hg]
  go_wp2_with fail
  refine (HR.out _ hB2).mono ?_
  rintro e w3 ⟨⟨v3, rfl, hv3⟩, hB3⟩
  obtain ⟨A3, c3, rfl, _, _⟩ := hv3.form
  have hBz := hB2.trans (hB3.mono hB2.size)
  clear hv3 HR HF hg
  go_upto_region 5 with fail
  go_loopw [5, 7, 26] (fun va vb vi wr => va = .int .u64 (first : Int) ∧ vb = .int .u64 (first : Int) ∧ vi = .int .i64 0 ∧ wr = w3) (fun _ _ _ _ => 0)
  case atStart => exact ⟨rfl, rfl, rfl, rfl⟩
  case round =>
    obtain ⟨rfl, rfl, rfl, hwr⟩ := hrel
    rw [hwr]
    clear hwr
    go_wp2
    refine bodyPost_ret (v := .tuple #[.int .u64 (first : Int), .int .u64 (first : Int), .nilIface]) ?_ rfl ⟨rfl, hBz⟩
    simp [results, Tryz.results33, Act.put, Sem.run_bind, Sem.run_pure, asAddr_ok]
end Go.Proofs.YtnlhjhpikjmoaaaGreatDoor
namespace Go.Proofs.YtnlhjhpikjmoaaaGreatDoor
open Go.RowKit
theorem cut_opS {f : Nat → Prop} {w : World} {gl gd n T first : Nat} {sf us : List (List UInt8)} (h : LogS f w gl gd n T first sf us) (hT : T + 1 < 256) (k : Nat) (h1 : first ≤ k) (h2 : k ≤ first + (sf ++ us).length) (hk : k + 70000 < 18446744073709551616) :
    Calls Tryz.prog 36 #[.pointer (some ⟨gl, 0, none⟩), .int .u64 (k : Int)] w fun e w' => e = .returned (.int .i64 0) ∧ (∃ T', T' ≤ T + 1 ∧ LogS (fun x => f x ∨ (w.heap.size ≤ x ∧ x < w'.heap.size)) w' gl gd n T' k ((sf ++ us).drop (k - first)) []) ∧ Kp (fun x => ¬ f x) w w' := by
  obtain ⟨l, d, rs, g1, g2, rfl⟩ := h
  obtain ⟨l', d', T', rs', he, hT', hs, hr⟩ := cut_up g2 hT h1 h2 hk
  obtain ⟨hg, hn3, _, _, hfi, htu, hwl, h64, _⟩ := g2.good
  refine (cut_any k g1 (by omega) hg.sum (by omega) (by omega)).mono ?_
  rintro e w' ⟨rfl, hB, hk⟩
  rw [he] at hB ⊢
  exact ⟨rfl, ⟨T', hT', l', d', rs', hB.mono fun x hx hlt => hx.imp_right fun h => ⟨h, hlt⟩, hs, hr⟩, hk⟩
theorem secSum_len (l : List (List UInt8)) : l.length ≤ secSum l := by
  induction l with
  | nil => simp
  | cons a r ih =>
    have h1 := secN_pos a.length
    have h2 : secSum (a :: r) = secN a.length + secSum r := by rw [← List.singleton_append, secSum_append]; simp [secSum]
    rw [List.length_cons]
    omega
def VltS (F : Nat → Prop) (w : World) (gv gd n c : Nat) (l : VLog) : Prop :=
  ∃ (f : Nat → Prop) (gl T first : Nat) (recs : List (List UInt8)) (vsd ves : Value), (∀ x, f x → F x) ∧ F gv ∧ ¬ f gv ∧ T ≤ c ∧ first ≤ 70000 * c ∧ Blk w gv 74 #[.pointer (some ⟨gl, 0, none⟩), .int .u64 (l.term : Int), .int .i64 l.vote, .int .u64 (l.si : Int), .int .u64 (l.st : Int), vsd, ves] ∧ LogS f w gl gd n T first recs [] ∧ VLm (fun b => F b ∧ ¬ f b ∧ b ≠ gv) w vsd ves l ∧ Grps recs l 0 ∧ secSum recs ≤ (n - 2) / 3 * 2 ∧ l.es.length ≤ 100000
section
variable {F F' : Nat → Prop} {w w' : World} {gv gd n c c' : Nat} {l : VLog}
theorem VltS.later (h : VltS F w gv gd n c l) (hc : c ≤ c') : VltS F w gv gd n c' l := by
  obtain ⟨f, gl, T, first, recs, vsd, ves, h1, h2, h3, h4, h5, h6⟩ := h
  exact ⟨f, gl, T, first, recs, vsd, ves, h1, h2, h3, by omega, by omega, h6⟩
theorem VltS.wide (h : VltS F w gv gd n c l) (hm : ∀ x, F x → F' x) : VltS F' w gv gd n c l := by
  obtain ⟨f, gl, T, first, recs, vsd, ves, h1, h2, h3, h4, h5, h6, h7, h8, h9⟩ := h
  exact ⟨f, gl, T, first, recs, vsd, ves, fun x hx => hm x (h1 x hx), hm _ h2, h3, h4, h5, h6, h7, h8.mono fun b hb _ => ⟨hm b hb.1, hb.2⟩, h9⟩
theorem VltS.kp {ok : Nat → Prop} (h : VltS F w gv gd n c l) (hk : Kp ok w w') (hok : ∀ x, F x → ok x) : VltS F w' gv gd n c l := by
  obtain ⟨f, gl, T, first, recs, vsd, ves, h1, h2, h3, h4, h5, h6, h7, h8, h9⟩ := h
  exact ⟨f, gl, T, first, recs, vsd, ves, h1, h2, h3, h4, h5, h6.kp hk (hok _ h2), h7.kp hk fun x hx => hok x (h1 x hx), h8.kp (hk.mono fun b hb => hok b hb.1), h9⟩
theorem VltS.below (h : VltS F w gv gd n c l) (hb : Below w.heap.size w w') : VltS F w' gv gd n c l := h.kp (ok := fun _ => True) (.of_below hb) fun _ _ => trivial
end
theorem secSum_bd : ∀ (l : List (List UInt8)), (∀ r ∈ l, r.length ≤ 32768) → secSum l ≤ 1000 * l.length
  | [], _ => by simp [secSum]
  | a :: r, h => by
    have h1 : secN a.length ≤ 1000 := by have := h a (by simp); unfold secN; omega
    have h2 : secSum (a :: r) = secN a.length + secSum r := by rw [← List.singleton_append, secSum_append]; simp [secSum]
    have := secSum_bd r fun x hx => h x (by simp [hx])
    rw [List.length_cons]
    omega
def PutP (F : Nat → Prop) (w w' : World) (gv gd n c : Nat) (l t : VLog) (v : Value) : Prop :=
  Kp (fun x => ¬ F x) w w' ∧ ∃ l', VltS (fun x => F x ∨ (w.heap.size ≤ x ∧ x < w'.heap.size)) w' gv gd n (c + 1) l' ∧
    ((rightV t = false ∧ l' = l ∧ ErrV 2 w' v 9) ∨ (rightV t = true ∧ l' = t ∧ v = .nilIface) ∨ (rightV t = true ∧ l' = l ∧ ErrV 2 w' v 4 ∧ (n - 2) / 3 < secSum (recordsV VLog.zero t .beg)))
theorem PutP.of_below {F : Nat → Prop} {w w' : World} {gv gd n c : Nat} {l t : VLog} {v : Value} (h : VltS F w gv gd n c l) (hb : Below w.heap.size w w')
    (hp : (rightV t = false ∧ ErrV 2 w' v 9) ∨ (rightV t = true ∧ l = t ∧ v = .nilIface) ∨ (rightV t = true ∧ ErrV 2 w' v 4 ∧ (n - 2) / 3 < secSum (recordsV VLog.zero t .beg))) : PutP F w w' gv gd n c l t v :=
  ⟨.of_below hb, l, ((h.below hb).wide fun x hx => .inl hx).later (by omega), hp.imp (fun h => ⟨h.1, rfl, h.2⟩) (Or.imp id fun h => ⟨h.1, rfl, h.2⟩)⟩
theorem vm_zero (ok : Nat → Prop) (w : World) : VLm ok w (.slice none 0 0) (.slice none 0 0) VLog.zero := ⟨RSl.nil_ _ _ _, RSl.nil_ _ _ _, by decide, ⟨by decide, by decide⟩, by decide, by decide⟩
set_option maxRecDepth 100000 in
set_option maxHeartbeats 6400000 in
theorem vput_any {ok F : Nat → Prop} {w : World} {gv gd n c : Nat} {l t : VLog} {usd ues : Value} (h : VltS F w gv gd n c l) (hF : ∀ x, F x → x < w.heap.size) (ht : VLm ok w usd ues t) (hok : ∀ b, ok b → ¬ F b) (hn : n ≤ 65536) (hn3 : 3 ≤ n) (hc : c + 1 < 256) (htl : t.es.length ≤ 100000) :
    Calls Tryz.prog 16 #[.pointer (some ⟨gv, 0, none⟩), .agg (vlCs t usd ues)] w fun e w' => ∃ v, e = .returned v ∧ PutP F w w' gv gd n c l t v := by
  have HV := Lib.hid h
  obtain ⟨f, gl, T, first, recs, vsd, ves, hfF, hFv, hfv, hT, hfi, hb, hL, hM, hG, hs, hle⟩ := h
  obtain ⟨Bs, ds, rfl, _, _⟩ := ht.sd.form
  obtain ⟨Be, de, rfl, _, _⟩ := ht.es.form
  obtain ⟨As, cs, rfl, _, _⟩ := hM.sd.form
  obtain ⟨Ae, ce, rfl, _, _⟩ := hM.es.form
  obtain ⟨g, hg⟩ : ∃ g, g = w.heap.size := ⟨_, rfl⟩
  have hgv : gv < g := by rw [hg]; exact hF _ hFv
  have ht := ht.mono (ok' := fun b => b < g ∧ ¬ F b) fun b hb hlt => ⟨by omega, hok b hb⟩
  have hM := hM.mono (ok' := fun b => b < g ∧ ¬ f b ∧ b ≠ gv ∧ F b) fun b hb hlt => ⟨by omega, hb.2.1, hb.2.2, hb.1⟩
  obtain ⟨T1, hT1⟩ : ∃ T1 : Array Value, T1 = vlCs t (.slice Bs t.sd.length ds) (.slice Be t.es.length de) := ⟨_, rfl⟩
  have hsz1 : T1.size = 6 := by rw [hT1]; rfl
  have hinf : (Tryz.prog.info? 30).map (·.size) = some T1.size := by rw [hsz1]; exact Tryz.infoLog
  have HL := Lib.hid hL
  have HM := Lib.hid hM
  have HT := Lib.hid ht
  have HB := Lib.hid hb
  have HGr := Lib.hid hG
  have HS := Lib.hid hs
  have HTn := Lib.hid hT
  have HFI := Lib.hid hfi
  have HT1 := Lib.hid hT1
  have HTL := Lib.hid htl
  have HLE := Lib.hid hle
  clear hL hM ht hb hG hs hT hfi hok htl hle
  rw [← hT1]
  clear hT1
  go_enter Tryz.func16, Tryz.ntmps16
  go_upto_region 3 with fail
  refine name_world (fun w1 => Blk w1 g 30 T1 ∧ Below g w w1 ∧ w1.heap.size = g + 1) ⟨by rw [hg]; exact Blk.new _ _ _, by rw [hg]; exact (Below.refl _ _).alloc (Nat.le_refl _) _, by rw [hg]; simp⟩ ?_
  rintro w1 ⟨k1, hB1, hz1⟩
  rw [← hg]
  have HR := Lib.hid (vright_any (HT.out.below (hg ▸ hB1)))
  have HG := Lib.hid hg
  clear hg
  rw [← HT1.out] at HR
  refine wp_region_lit ?_
  refine wpList_ld (g := g) (k := 0) (cs := T1) rfl rfl rfl k1.range Tryz.underlying30 rfl hinf ?_
  go_wp2_with fail
  refine HR.out.mono ?_
  rintro e w2 ⟨rfl, hB2⟩
  have hB2' : Below g w w2 := hB1.trans (hB2.mono (by omega))
  have k2 := k1.below hB2 k1.lt
  have hz2 := hB2.size
  obtain ⟨q, hq⟩ : ∃ q, q = rightV t := ⟨_, rfl⟩
  rw [← hq]
  have HQ := Lib.hid hq
  clear hq HR k1
  cases q
  · go_wp2_with fail
    refine (as_any 9 (by decide) _).mono ?_
    rintro e w3 ⟨⟨v3, rfl, hv3⟩, hB3⟩
    have HV3 := Lib.hid hv3
    clear hv3
    go_wp2
    go_ret
    exact ⟨v3, rfl, PutP.of_below HV.out (HG.out ▸ hB2'.trans (hB3.mono (by omega))) (.inl ⟨HQ.out.symm, HV3.out⟩)⟩
  have hLk := HL.out.below (HG.out ▸ hB2')
  have kv := HB.out.below hB2' hgv
  have c0 : w2.cell? ⟨gv, 0, none⟩ = some (.pointer (some ⟨gl, 0, none⟩)) := kv.cell 0
  have HD := Lib.hid (downS_any hLk)
  have HL2 := Lib.hid hLk
  clear hLk
  go_wp2_with fail
  refine HD.out.mono ?_
  rintro e w2' ⟨rfl, rfl⟩
  clear HD
  have kv2 : Blk w2' gv 74 #[.pointer (some ⟨gl, 0, none⟩), .int .u64 (l.term : Int), .int .i64 l.vote, .int .u64 (l.si : Int), .int .u64 (l.st : Int), .slice As l.sd.length cs, .slice Ae l.es.length ce] := kv
  have hM2 : VLm (fun b => b < g ∧ ¬ f b ∧ b ≠ gv ∧ F b) w2' _ _ l := HM.out.kp (.of_belowB hB2' fun b hb _ => hb.1)
  have hT2 : VLm (fun b => b < g ∧ ¬ F b) w2' _ _ t := HT.out.kp (.of_belowB hB2' fun b hb _ => hb.1)
  obtain ⟨L1, hL1⟩ : ∃ L1 : Array Value, L1 = vlCs l (.slice As l.sd.length cs) (.slice Ae l.es.length ce) := ⟨_, rfl⟩
  have hinf2 : (Tryz.prog.info? 30).map (·.size) = some L1.size := by rw [hL1]; exact Tryz.infoLog
  have hrg : ∀ w3, Below w2'.heap.size w2' w3 → w3.rangeAt gv 1 L1.toList := fun w3 hb => (kv2.below hb kv2.lt).rangeW 1 _ fun j v hv => by
    rw [hL1] at hv
    match j, hv with
    | 0, hv => exact hv
    | 1, hv => exact hv
    | 2, hv => exact hv
    | 3, hv => exact hv
    | 4, hv => exact hv
    | 5, hv => exact hv
    | j + 6, hv => simp [vlCs] at hv
  have HSA := Lib.hid (fun (w' : World) (hb : Below w2'.heap.size w2' w') => vsame_any (hM2.below hb) (hT2.below hb))
  rw [← HT1.out, ← hL1] at HSA
  have HRG := Lib.hid hrg
  have HM2 := Lib.hid hM2
  have HT2 := Lib.hid hT2
  have HL1 := Lib.hid hL1
  clear hrg hM2 hT2 hL1 kv
  go_upto_region 7 with fail
  refine wp_seqL [5] (by as_aux_lemma => kernel_rfl) (by as_aux_lemma => kernel_rfl) fun wA hbA => ?_
  refine seqL_pre 3 (by kernel_rfl) ?_
  simp only [List.take_succ_cons, List.take_zero, List.drop_succ_cons, List.drop_zero]
  repeat (go_big_quiet_step (fail))
  refine wpQuiet_nil ?_
  refine seqL_still (.agg L1) rfl rfl (fun s => still_ld (g := gv) (k := 1) rfl rfl (HRG.out _ s.below) Tryz.underlying30 rfl hinf2) ?_
  refine seqL_still (.agg T1) rfl rfl (fun s => still_ld (g := g) (k := 0) rfl rfl (k2.below s.below k2.lt).range Tryz.underlying30 rfl hinf) ?_
  refine seqL_wild hbA rfl rfl fun K hK => ?_
  unfold Gives
  go_simp
  refine (HSA.out wA hbA).mono ?_
  rintro e wB ⟨rfl, hbB⟩
  refine ⟨_, rfl, hK _ _ (hbB) fun hbB' => ?_⟩
  clear hK
  clear K
  simp only [Act.put, List.setIfInBounds_toArray, List.set_cons_succ, List.set_cons_zero]
  refine seqL_pre 1 (by kernel_rfl) ?_
  simp only [List.take_succ_cons, List.take_zero, List.drop_succ_cons, List.drop_zero]
  repeat (go_big_quiet_step (fail))
  refine wpQuiet_nil ?_
  refine seqL_nil ?_
  obtain ⟨q, hq⟩ : ∃ q, q = sameV l t := ⟨_, rfl⟩
  rw [← hq]
  have HQ2 := Lib.hid hq
  clear hq HSA
  have hBB : Below g w wB := hB2'.trans (hbB'.mono (by omega))
  cases q
  rotate_left
  · go_wp2
    go_ret
    exact ⟨_, rfl, PutP.of_below HV.out (HG.out ▸ hBB) (.inr (.inl ⟨HQ.out.symm, (sameV_iff l t).1 HQ2.out.symm, rfl⟩))⟩
  obtain ⟨n2, hn2⟩ : ∃ n2, n2 = n - 2 := ⟨_, rfl⟩
  have hni : (n : Int) - 2 = (n2 : Int) := by omega
  have hLB := HL2.out.below hbB'
  have kB := k2.below hbB' k2.lt
  have kvB := kv2.below hbB' kv2.lt
  have cB : wB.cell? ⟨gv, 0, none⟩ = some (.pointer (some ⟨gl, 0, none⟩)) := kvB.cell 0
  have HRI := Lib.hid (ringS_any hLB hn hn3)
  rw [hni, List.append_nil] at HRI
  obtain ⟨us, hus⟩ : ∃ us, us = secSum recs := ⟨_, rfl⟩
  rw [← hus] at HRI
  have HUS := Lib.hid hus
  have hn2b : n2 ≤ 65536 := by omega
  have HLB := Lib.hid hLB
  have HN2 := Lib.hid hn2
  have hB0 := hbB'.size
  clear hni hus hLB hn2 c0
  go_wp2_with fail
  refine HRI.out.mono ?_
  rintro e wC ⟨rfl, hbC⟩
  have hB2C := hbB'.trans (hbC.mono hB0)
  have kC := kB.below hbC kB.lt
  have kvC := kvB.below hbC kvB.lt
  have hBC : Below g w wC := hB2'.trans (hB2C.mono (by omega))
  have hzC := hB2C.size
  have HRW := Lib.hid (show Calls Tryz.prog 41 #[.agg #[.int .u64 0, .int .i64 0, .int .u64 0, .int .u64 0, .slice none 0 0, .slice none 0 0], .agg T1, .int .u64 1] wC _ from HT1.out ▸ vrecs_any (vm_zero _ wC) (HT2.out.below hB2C) 1 (.inl rfl) HQ.out.symm (by decide) HTL.out)
  clear HRI cB
  go_upto_region 10 with fail
  refine wp_region_split 1 ?_
  simp only [List.take_succ_cons, List.take_zero, List.drop_succ_cons, List.drop_zero]
  go_wp2
  show wpList _ _ _ _ _ _
  refine wpList_ld (g := g) (k := 0) (cs := T1) rfl rfl rfl kC.range Tryz.underlying30 rfl hinf ?_
  go_wp2_with fail
  refine HRW.out.mono ?_
  rintro e wD ⟨⟨vw, rfl, hvw⟩, hbD⟩
  have hvw : RSl rBs (fun b => wC.heap.size ≤ b) wD vw (recordsV VLog.zero t .beg) := hvw
  have hWl := recordsV_length VLog.zero t .beg
  have hWs : ∀ r ∈ recordsV VLog.zero t .beg, r.length ≤ 32768 := recordsV_le (.inl rfl) HQ.out.symm
  have htl := HTL.out
  obtain ⟨W1, hW1⟩ : ∃ W1, W1 = recordsV VLog.zero t .beg := ⟨_, rfl⟩
  rw [← hW1] at hvw hWl hWs
  have HW1 := Lib.hid hW1
  have HWL := Lib.hid hWl
  have HWS := Lib.hid hWs
  have HVW := Lib.hid hvw
  obtain ⟨Aw, cw, rfl, _, _⟩ := hvw.form
  have HSW := Lib.hid (vsectors_any _ W1 wD hvw (by omega) hWs)
  obtain ⟨nw, hnw⟩ : ∃ nw, nw = W1.length := ⟨_, rfl⟩
  obtain ⟨sw, hsw⟩ : ∃ sw, sw = secSum W1 := ⟨_, rfl⟩
  rw [← hnw] at HVW HSW ⊢
  rw [← hsw] at HSW
  have HSWE := Lib.hid hsw
  have HNW := Lib.hid hnw
  have hB2D := hB2C.trans (hbD.mono hzC)
  have kD := kC.below hbD kC.lt
  have kvD := kvC.below hbD kvC.lt
  have hBD : Below g w wD := hB2'.trans (hB2D.mono (by omega))
  have hzD := hB2D.size
  clear hvw hWl hWs hW1 hsw hnw HRW htl
  go_upto_region 11 with fail
  go_wp2_with fail
  refine HSW.out.mono ?_
  rintro e wE ⟨rfl, rfl⟩
  clear HSW
  by_cases hfull : n2 / 3 < sw
  · have z1 : decide ((n2 : Int) / 3 < (sw : Int)) = true := decide_eq_true (by omega)
    have z2 : decide (n2 / 3 < sw) = true := decide_eq_true hfull
    have HFU := Lib.hid (show (n - 2) / 3 < secSum (recordsV VLog.zero t .beg) by rw [← HN2.out, ← HW1.out, ← HSWE.out]; exact hfull)
    clear hfull
    go_wp2_with fail
    refine (as_any 4 (by decide) _).mono ?_
    rintro e w3 ⟨⟨v3, rfl, hv3⟩, hB3⟩
    have HV3 := Lib.hid hv3
    clear hv3
    go_wp2
    go_ret
    exact ⟨v3, rfl, PutP.of_below HV.out (HG.out ▸ hBD.trans (hB3.mono (by omega))) (.inr (.inr ⟨HQ.out.symm, HV3.out, HFU.out⟩))⟩
  have z1 : decide ((n2 : Int) / 3 < (sw : Int)) = false := decide_eq_false (by omega)
  have z2 : decide (n2 / 3 < sw) = false := decide_eq_false hfull
  have HR2 := Lib.hid (fun (w' : World) (hb : Below wE.heap.size wE w') => vrecs_any ((HM2.out.below (hB2D.trans (hb.mono hzD))).mono (ok' := fun b => b < g ∧ (¬ F b ∨ ¬ f b)) fun b hb _ => ⟨hb.1, .inr hb.2.1⟩) ((HT2.out.below (hB2D.trans (hb.mono hzD))).mono fun b hb _ => ⟨hb.1, .inl hb.2⟩) 2 (.inr rfl) HQ.out.symm (by have := HLE.out; omega) HTL.out)
  rw [← HT1.out, ← HL1.out] at HR2
  go_upto_region 13 with fail
  clear z1 z2
  refine wp_seqL [5] (by as_aux_lemma => kernel_rfl) (by as_aux_lemma => kernel_rfl) fun wA hbA => ?_
  refine seqL_pre 3 (by kernel_rfl) ?_
  simp only [List.take_succ_cons, List.take_zero, List.drop_succ_cons, List.drop_zero]
  repeat (go_big_quiet_step (fail))
  refine wpQuiet_nil ?_
  refine seqL_still (.agg L1) rfl rfl (fun s => still_ld (g := gv) (k := 1) rfl rfl (HRG.out _ (hB2D.trans (s.below.mono hzD))) Tryz.underlying30 rfl hinf2) ?_
  refine seqL_still (.agg T1) rfl rfl (fun s => still_ld (g := g) (k := 0) rfl rfl (kD.below s.below kD.lt).range Tryz.underlying30 rfl hinf) ?_
  refine seqL_wild hbA rfl rfl fun K hK => ?_
  unfold Gives
  go_simp
  refine (HR2.out wA hbA).mono ?_
  rintro e wF ⟨⟨vm, rfl, hvm⟩, hbF⟩
  refine ⟨_, rfl, hK _ _ (hbF) fun hbF' => ?_⟩
  clear hK
  clear K
  simp only [Act.put, List.setIfInBounds_toArray, List.set_cons_succ, List.set_cons_zero]
  refine seqL_pre 1 (by kernel_rfl) ?_
  simp only [List.take_succ_cons, List.take_zero, List.drop_succ_cons, List.drop_zero]
  repeat (go_big_quiet_step (fail))
  refine wpQuiet_nil ?_
  refine seqL_nil ?_
  have hvm : RSl rBs (fun b => wA.heap.size ≤ b) wF vm (recordsV l t .fol) := hvm
  have hMl := recordsV_length l t .fol
  have hMs : ∀ r ∈ recordsV l t .fol, r.length ≤ 32768 := recordsV_le (.inr rfl) HQ.out.symm
  have htl := HTL.out
  obtain ⟨M1, hM1⟩ : ∃ M1, M1 = recordsV l t .fol := ⟨_, rfl⟩
  rw [← hM1] at hvm hMl hMs
  have HM1 := Lib.hid hM1
  have HML := Lib.hid hMl
  have HMS := Lib.hid hMs
  have HVM := Lib.hid hvm
  have hzF : wE.heap.size ≤ wA.heap.size := hbA.size
  obtain ⟨Am, cm, rfl, _, _⟩ := hvm.form
  have HSM := Lib.hid (vsectors_any _ M1 wF hvm (by omega) hMs)
  have hsb := secSum_bd M1 hMs
  obtain ⟨nm, hnm⟩ : ∃ nm, nm = M1.length := ⟨_, rfl⟩
  obtain ⟨sm, hsm⟩ : ∃ sm, sm = secSum M1 := ⟨_, rfl⟩
  rw [← hnm] at HVM HSM hsb hMl ⊢
  rw [← hsm] at HSM hsb
  have HSME := Lib.hid hsm
  have HNM := Lib.hid hnm
  have hsb2 : sm ≤ 1000000000 := by omega
  have hus : us ≤ 65536 := by rw [HUS.out]; have := HS.out; omega
  have hB2F := hB2D.trans (hbF'.mono hzD)
  have kF := kD.below hbF' kD.lt
  have kvF := kvD.below hbF' kvD.lt
  have hBF : Below g w wF := hB2'.trans (hB2F.mono (by omega))
  have hzF2 := hB2F.size
  have hWF := HVW.out.below hbF'
  have HWF := Lib.hid hWF
  have hLF := HL2.out.below hB2F
  have HLF := Lib.hid hLF
  have cF : wF.cell? ⟨gv, 0, none⟩ = some (.pointer (some ⟨gl, 0, none⟩)) := kvF.cell 0
  clear hvm hMl hMs hM1 hsm hnm HR2 htl hsb hWF hLF
  go_upto_region 14 with fail
  go_wp2_with fail
  refine HSM.out.mono ?_
  rintro e wG ⟨rfl, rfl⟩
  clear HSM
  go_upto_if 65 with fail
  go_cut [5] (fun v wx => v = .int .i64 (n2 : Int) ∧ Hid (Kp (fun x => ¬ f x) wG wx ∧ ∃ (f4 : Nat → Prop) (T' first' : Nat) (recs' : List (List UInt8)), (∀ x, f4 x → f x ∨ (g ≤ x ∧ x < wx.heap.size)) ∧ T' ≤ c + 1 ∧ first' ≤ 70000 * (c + 1) ∧ LogS f4 wx gl gd n T' first' recs' [] ∧ Grps recs' t 0 ∧ secSum recs' ≤ (n - 2) / 3 * 2))
  case first =>
    have hff : ∀ x, f x → x < wG.heap.size := fun x hx => by have := hF x (hfF x hx); have := HG.out; omega
    by_cases hfit : us + sm ≤ n2 / 3 * 2
    · have z1 : decide ((us : Int) + (sm : Int) ≤ (n2 : Int) / 3 * 2) = true := decide_eq_true (by omega)
      have z2 : decide (us + sm ≤ n2 / 3 * 2) = true := decide_eq_true hfit
      have hsum : secSum (recs ++ M1) ≤ n2 / 3 * 2 := by rw [secSum_append, ← HUS.out, ← HSME.out]; exact hfit
      have hml := HML.out
      have htl := HTL.out
      have HA := Lib.hid (vappend_any cF hfv HLF.out _ M1 HVM.out (fun b hb h => by have := hF b (hfF b h); have := HG.out; omega) hff (by omega) HMS.out (by have := HN2.out; omega))
      have HSU := Lib.hid hsum
      clear hsum hfit hml htl
      rw [z1]
      go_wp2_with fail
      refine HA.out.mono ?_
      rintro e wH ⟨rfl, hLH, hKH⟩
      go_wp2
      go_meet
      refine ⟨rfl, Lib.hid ⟨hKH, _, T, first, recs ++ M1, fun x hx => hx.imp_right fun h => ⟨by omega, h.2⟩, by have := HTn.out; omega, by have := HFI.out; omega, hLH, ?_, by have := HSU.out; have := HN2.out; omega⟩⟩
      rw [HM1.out]
      exact .fol HGr.out ⟨HQ.out.symm, HTL.out, HT.out.term⟩
    · have z1 : decide ((us : Int) + (sm : Int) ≤ (n2 : Int) / 3 * 2) = false := decide_eq_false (by omega)
      have z2 : decide (us + sm ≤ n2 / 3 * 2) = false := decide_eq_false hfit
      have hwl := HWL.out
      have htl := HTL.out
      have hsum : secSum (recs ++ W1) ≤ n - 2 := by rw [secSum_append, ← HUS.out, ← HSWE.out]; have := HS.out; have := HUS.out; have := HN2.out; omega
      have hnx := next_opU HLF.out.u
      rw [List.append_nil] at hnx
      obtain ⟨kn, hkn⟩ : ∃ kn, kn = first + recs.length := ⟨_, rfl⟩
      rw [← hkn] at hnx
      have HNX := Lib.hid hnx
      have HKN := Lib.hid hkn
      have HSU := Lib.hid hsum
      have hkn2 : kn + 70000 < 18446744073709551616 := by
        have h1 := secSum_len recs
        have h2 := HFI.out
        have h3 := HUS.out
        omega
      have HK2 := Lib.hid hkn2
      clear hsum hfit hnx hkn hkn2
      rw [z1]
      go_wp2_with fail
      refine HNX.out.mono ?_
      rintro e wH ⟨rfl, hbH⟩
      have cH : wH.cell? ⟨gv, 0, none⟩ = some (.pointer (some ⟨gl, 0, none⟩)) := (kvF.below hbH kvF.lt).cell 0
      have HA := Lib.hid (vappend_any cH hfv (HLF.out.below hbH) _ W1 (HWF.out.below hbH) (fun b hb h => by have hb : wC.heap.size ≤ b := hb; have := hF b (hfF b h); have := HG.out; omega) (fun x hx => by have := hff x hx; have := hbH.size; omega) (by omega) HWS.out HSU.out)
      clear HNX cF
      go_wp2_with fail
      refine HA.out.mono ?_
      rintro e wI ⟨rfl, hLI, hKI⟩
      have cI : wI.cell? ⟨gv, 0, none⟩ = some (.pointer (some ⟨gl, 0, none⟩)) := (hKI.cell (p := ⟨gv, 0, none⟩) hfv cH)
      have hzI := hKI.size
      have hzH := hbH.size
      have HC := Lib.hid (cut_opS hLI (by have := HTn.out; omega) kn (by have := HKN.out; omega) (by have := HKN.out; rw [List.append_nil, List.length_append]; omega) HK2.out)
      clear HA cH
      go_wp2_with fail
      refine HC.out.mono ?_
      rintro e wJ ⟨rfl, ⟨T', hT', hLJ⟩, hKJ⟩
      have hzJ := hKJ.size
      rw [List.append_nil, show kn - first = recs.length by have := HKN.out; omega, List.drop_left] at hLJ
      have HQJ := Lib.hid (show Kp (fun x => ¬ f x) wG wJ from (Kp.of_below hbH).trans (hKI.trans_new hKJ))
      have HLJ := Lib.hid hLJ
      clear hLI hKI hLJ hKJ HC
      go_wp2_with fail
      refine (faultNew_ok _ _).mono ?_
      rintro e wK ⟨rfl, rfl⟩
      go_wp2
      go_meet
      refine ⟨rfl, Lib.hid ⟨HQJ.out, _, T', kn, W1, fun x hx => ?_, by have := HTn.out; omega, ?_, HLJ.out, ?_, by have := HSWE.out; have := HN2.out; omega⟩⟩
      · rcases hx with (hx | hx) | hx
        · exact .inl hx
        · exact .inr (by omega)
        · exact .inr (by omega)
      · have h1 := secSum_len recs
        have h2 := HFI.out
        have h3 := HUS.out
        have h4 := HKN.out
        omega
      · rw [HW1.out]
        have := (Grps.beg HGr.out ⟨HQ.out.symm, HTL.out, HT.out.term⟩).cut
        rwa [List.drop_left] at this
  obtain ⟨rfl, HX⟩ := hcut
  obtain ⟨wH, rfl⟩ : ∃ wH, wH = wc := ⟨_, rfl⟩
  have hgw := HG.out
  have hKH := HX.out.1
  have hzH := hKH.size
  have hgf : ¬ f g := fun h => by have := hF g (hfF g h); omega
  have kH := kF.kp hKH hgf
  have kvH := kvF.kp hKH hfv
  have hTH : VLm (fun b => b < g ∧ ¬ F b) wH _ _ t := (HT2.out.below hB2F).kp (hKH.mono fun b hb h => hb.2 (hfF b h))
  have HOW := Lib.hid (own_any hTH (by have := HTL.out; omega))
  rw [← HT1.out] at HOW
  have HKV := Lib.hid kvH
  have HKH := Lib.hid hKH
  clear hTH hgf hKH kvH cF hgw
  go_upto_region 24 with fail
  refine wp_region_split 1 ?_
  simp only [List.take_succ_cons, List.take_zero, List.drop_succ_cons, List.drop_zero]
  go_wp2
  show wpList _ _ _ _ _ _
  refine wpList_ld (g := g) (k := 0) (cs := T1) rfl rfl rfl kH.range Tryz.underlying30 rfl hinf ?_
  refine wpList_split 3 ?_
  simp only [List.take_succ_cons, List.take_zero, List.drop_succ_cons, List.drop_zero]
  go_wp2_with fail
  refine HOW.out.mono ?_
  rintro e wI ⟨⟨v2, e2, rfl, hmI⟩, hBI⟩
  obtain ⟨A2, c2, rfl, _⟩ := hmI.sd.form
  obtain ⟨A3, c3, rfl, _⟩ := hmI.es.form
  have kvI := HKV.out.below hBI HKV.out.lt
  have HMI := Lib.hid hmI
  clear hmI HOW kH
  go_wp2
  show wpList _ _ _ _ _ _
  have hkM : Blk wI gv 74 (#[.pointer (some ⟨gl, 0, none⟩)] ++ L1 ++ #[]) := by rw [HL1.out]; exact kvI
  refine wpList_stMid (C := L1) rfl rfl (vlCs t (.slice A2 t.sd.length c2) (.slice A3 t.es.length c3)) rfl rfl hkM rfl (by rw [HL1.out]; rfl) Tryz.infoLog (vl_all _ _ _ _ _ _ _) ?_ rfl
  intro k9
  have hK9 : Kp (fun b => ¬ b = gv) wI (World.setCells wI gv 1 (vlCs t (.slice A2 t.sd.length c2) (.slice A3 t.es.length c3)).toList) := Kp.setCells (b := gv) (fun _ h => h rfl) _ 1 (Kp.refl _ _)
  generalize hwz : World.setCells wI gv 1 (vlCs t (.slice A2 t.sd.length c2) (.slice A3 t.es.length c3)).toList = wz at k9 hK9 ⊢
  clear hwz hkM kvI
  have HK9 := Lib.hid k9
  clear k9
  go_wp2
  go_ret
  have hzI := hBI.size
  have hz9 := hK9.size
  have hgw := HG.out
  have hf4 := HX.out.2
  obtain ⟨f4, T', first', recs', h41, h42, h43, h44, h45, h46⟩ := hf4
  refine ⟨_, rfl, ?_, t, ⟨f4, gl, T', first', recs', .slice A2 t.sd.length c2, .slice A3 t.es.length c3, ?_, .inl hFv, ?_, h42, h43, HK9.out, ?_, ?_, h45, h46, HTL.out⟩, .inr (.inl ⟨HQ.out.symm, rfl, rfl⟩)⟩
  · refine (((Kp.of_below (hgw ▸ hBF)).trans (HKH.out.mono fun b hb h => hb (hfF b h))).trans (.of_below hBI)).trans (hK9.mono fun b hb e => hb (e ▸ hFv))
  · intro x hx
    rcases h41 x hx with h | h
    · exact .inl (hfF x h)
    · exact .inr (by omega)
  · intro h
    rcases h41 gv h with h | h
    · exact hfv h
    · omega
  · refine (h44.below hBI).kp hK9 fun x hx e => ?_
    subst e
    rcases h41 x hx with h | h
    · exact hfv h
    · omega
  · refine (HMI.out.mono (ok' := fun b => ((F b ∨ (w.heap.size ≤ b ∧ b < wz.heap.size)) ∧ ¬ f4 b ∧ b ≠ gv)) fun b hb hlt => ⟨.inr (by omega), fun h => ?_, by omega⟩).kp (hK9.mono fun b hb => hb.2.2)
    rcases h41 b h with h | h
    · have := hF b (hfF b h)
      omega
    · omega
end Go.Proofs.YtnlhjhpikjmoaaaGreatDoor
