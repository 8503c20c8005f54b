/- Contracts: wal.Back on a calm disk, where records go.
Vault: groups of records of which the last is there in part. No walk.
Contracts: vault.Open, on a calm disk, where the last group is there in part. -/
import Derived.Test.YtnlhjhpikjmoaaaGreatDoorB15
import Derived.Test.YtnlhjhpikjmoaaaGreatDoorA11
import Derived.Test.YtnlhjhpikjmoaaaGreatDoorB25
namespace Go.Proofs.YtnlhjhpikjmoaaaGreatDoor
open Go.RowKit
theorem Chain.take {I : List (List UInt8)} {ring T : Nat} : ∀ {r : List (Nat × List UInt8)} {p : Nat} (k : Nat), Chain I ring T p r → Chain I ring T p (r.take k)
  | [], _, k, _ => by rw [List.take_nil]; trivial
  | _ :: _, _, 0, _ => trivial
  | _ :: _, _, k + 1, h => ⟨h.1, Chain.take k h.2⟩
theorem Bas.take {I : List (List UInt8)} {n T first start : Nat} {rs : List (Nat × List UInt8)} (h : Bas I n T first start rs) (j : Nat) : Bas I n T first start (rs.take j) :=
  ⟨h.len, h.n3, h.n64, h.sm, h.T1, h.st, h.back, h.chain.take j, by have := secSum_td (rs.map (·.2)) j; have := h.fit; rw [List.map_take]; omega, h.hd, h.f64⟩
theorem plc_take (ring : Nat) : ∀ (r : List (List UInt8)) (p k : Nat), (plc ring p r).take k = plc ring p (r.take k)
  | [], p, k => by rw [List.take_nil]; show ([] : List Nat).take k = []; rw [List.take_nil]
  | _ :: _, _, 0 => rfl
  | b :: r, p, k + 1 => by
    rw [List.take_succ_cons]
    show (p % ring :: plc ring (p + secN b.length) r).take (k + 1) = p % ring :: plc ring (p + secN b.length) (r.take k)
    rw [List.take_succ_cons, plc_take ring r _ k]
def backL (l : LogD) (j : Nat) : LogD := { l with end_ := l.places.getD j 0, used := l.used - secSum (l.recs.drop j), recs := l.recs.take j, places := l.places.take j, waits := false }
set_option maxRecDepth 100000 in
theorem back_up {n : Nat} {l : LogD} {d : DskD} {T first : Nat} {rs : List (Nat × List UInt8)} (h : Up n l d T first rs []) (hT : T + 1 < 256) {j : Nat} (hj : j < rs.length) :
    (tellL (backL l j) d 0).2.2 = 0 ∧ (tellL (backL l j) d 0).1.dead = false ∧ ∃ rs', Up n (tellL (backL l j) d 0).1 (tellL (backL l j) d 0).2.1 (T + 1) first rs' [] ∧ rs'.map (·.2) = (rs.map (·.2)).take j := by
  obtain ⟨hg, hn3, _, hr, hfi, htu, hwl, h64, _⟩ := h.good
  obtain ⟨start, nx, hi⟩ := h.inv
  have hlg := hi.log
  rw [List.append_nil] at hlg
  have htd := secSum_td l.recs j
  have hfit := hg.fit
  have hsum := hg.sum
  have hG : Good n (backL l j) d := ⟨hg.kept, hg.calm, hg.dead, by show l.used - _ = secSum (l.recs.take j); omega, by show l.used - _ ≤ _; omega⟩
  have hl2 : Lg (backL l j) T first (n - 2) start ((rs.take j).map (·.2)) := by
    refine ⟨hlg.turn, hlg.first, ?_, ?_, ?_, ?_⟩
    · show l.recs.take j = _
      rw [hlg.recs, List.map_take]
    · show l.places.take j = _
      rw [hlg.places, plc_take, List.map_take]
    · show l.places.getD j 0 = _
      rw [hlg.places, List.getD_eq_getElem?_getD, List.getElem?_eq_getElem (by rw [plc_len, List.length_map]; exact hj), plc_get, List.map_take]
      rfl
    · show l.used - secSum (l.recs.drop j) = _
      rw [List.map_take, ← hlg.recs]
      omega
  have hw : d.wait = [] := by rw [hi.wait]; rfl
  have ht := tell_good hG hn3 0
  have hkw : keepW d.kept d.wait = d.kept := by rw [hw]; rfl
  have hi3 := told_inv (hi.img.bas.take j) hl2 hT 0 (Nat.zero_le _) (by rw [Nat.add_zero]; exact h64) false d.down d.armed
  rw [hkw] at ht
  rw [ht]
  exact ⟨rfl, hg.dead, rs.take j, ⟨⟨_, _, hi3⟩, ⟨h.calm.down, h.calm.armed⟩, hg.dead⟩, by rw [List.map_take]⟩
set_option maxRecDepth 100000 in
set_option maxHeartbeats 6400000 in
theorem back_opS {f : Nat → Prop} {w : World} {gl gd n T first : Nat} {recs : List (List UInt8)} (h : LogS f w gl gd n T first recs []) (hT : T + 1 < 256) {j : Nat} (hj : j < recs.length) :
    Calls Tryz.prog 35 #[.pointer (some ⟨gl, 0, none⟩), .int .u64 ((first + j : Nat) : Int)] w fun e w' => e = .returned (.int .i64 0) ∧ LogS (fun x => f x ∨ (w.heap.size ≤ x ∧ x < w'.heap.size)) w' gl gd n (T + 1) first (recs.take j) [] ∧ Kp (fun x => ¬ f x) w w' := by
  obtain ⟨l, d, rs, g1, g2, rfl⟩ := h
  rw [List.length_map] at hj
  have HBU := Lib.hid (back_up g2 hT hj)
  obtain ⟨hg, hn3, _, hrc, hfi, htu, hwl, h64, _⟩ := g2.good
  rw [List.append_nil] at hrc
  have hok := g1.ok.1
  have hlj : j < l.recs.length := by rw [hrc, List.length_map]; exact hj
  have hrl : l.recs.length ≤ 65536 := by have := hok.used; have := secSum_ge l.recs; have := hg.sum; omega
  obtain ⟨nx, hnx⟩ : ∃ nx, nx = l.first + l.recs.length := ⟨_, rfl⟩
  obtain ⟨k, hk⟩ : ∃ k, k = l.first + j := ⟨_, rfl⟩
  rw [← hfi, ← hk]
  have hN := fun (w : World) (h : Both f w gl gd l d) => next_b h
  rw [← hnx] at hN
  have hRD := fun (w : World) (h : Both f w gl gd l d) => ready_b h
  rw [hg.rdy.1, hg.rdy.2] at hRD
  have hKN : l.first ≤ k ∧ k < nx ∧ (k : Int) - (l.first : Int) = (j : Int) := by omega
  have hus := hg.sum
  have hwl1 : d.wait.length + 1 ≤ 1000000000 := by omega
  have htu1 : l.turn + 1 < 18446744073709551616 := by omega
  have HHN := Lib.hid hN
  have HRD := Lib.hid hRD
  have HG1 := Lib.hid g1
  have HOK := Lib.hid hok
  have HUS := Lib.hid hus
  have HWL := Lib.hid hwl1
  have HTU := Lib.hid htu1
  have HRC := Lib.hid hrc
  have HFI := Lib.hid hfi
  have HRL := Lib.hid hrl
  have z1 : decide (k < l.first) = false := decide_eq_false (by omega)
  have z2 : decide ((k : Int) < (l.first : Int)) = false := decide_eq_false (by omega)
  have z3 : decide (nx < k) = false := decide_eq_false (by omega)
  have z4 : decide ((nx : Int) < (k : Int)) = false := decide_eq_false (by omega)
  have z5 : ((k : Int) == (nx : Int)) = false := by simpa using (show ¬ (k : Int) = (nx : Int) by omega)
  have z6 : decide ((k : Int) = (nx : Int)) = false := decide_eq_false (by omega)
  have z7 : (k == nx) = false := by simpa using (show ¬ k = nx by omega)
  have z8 : decide (k = nx) = false := decide_eq_false (by omega)
  have HKN := Lib.hid hKN
  clear hN hRD g1 g2 hok hus hwl1 htu1 hrc hfi hrl hKN hnx hk hwl h64 htu hg hn3 hT
  go_enter Tryz.func35, Tryz.ntmps35
  go_wp2_with fail
  refine (first_b HG1.out).mono ?_
  rintro e w1 ⟨rfl, rfl⟩
  go_wp2_with fail
  refine (HHN.out _ HG1.out).mono ?_
  rintro e w2 ⟨rfl, hb2⟩
  have hG2 := HG1.out.below hb2
  go_wp2_with fail
  refine (HRD.out _ hG2).mono ?_
  rintro e w3 ⟨rfl, hB3, hK3⟩
  have hfg := hG2.glf
  go_wp2_with fail
  refine (HHN.out _ hB3).mono ?_
  rintro e w4 ⟨rfl, hb4⟩
  have hB4 := hB3.below hb4
  have hK4 : Kp (fun x => ¬ f x) w1 w4 := ((Kp.of_below hb2).trans (hK3.mono fun b hb e => hb (e ▸ hfg))).trans (.of_below hb4)
  have HB4 := Lib.hid hB4
  have HK4 := Lib.hid hK4
  clear hG2 hB3 hK3 hb2 hb4 hK4
  obtain ⟨fl, fd, h1, h2, h3, h4, h5⟩ := hB4
  have hfl := h4.ftl
  obtain ⟨vr2, vp2, hbk, hrr, hpp, q4, q5, q6, q7, q8, q9, hlok⟩ := h4
  have hpl := hlok.places
  have hrl := HRL.out
  have hrs : RSl rBs (fun b => fl b ∧ b ≠ gl) w4 vr2 l.recs := hrr.rslP (show l.recs.length * 24 ≤ _ by omega) (fun b _ e => ⟨q8 b e.symm, fun h => q4 (by rw [← e, h])⟩) (fun b hb => ⟨hb.1, hb.2.1⟩)
  have hps : RSl rNat (fun b => b ≠ gl) w4 vp2 l.places := hpp.rslP (show l.places.length * 8 ≤ _ by omega) (fun b _ e h => q5 (by rw [← e, h])) (fun b hb => hb.elim)
  obtain ⟨A4, c4, rfl, hc4, _⟩ := hrs.form
  obtain ⟨A5, c5, rfl, hc5, _⟩ := hps.form
  have y3 : w4.cell? ⟨gl, 3, none⟩ = some (.int .u64 (l.first : Int)) := hbk.cell 3
  go_upto_region 8 with fail
  go_cut [6] (fun v wx => v = .int .i64 (j : Int) ∧ wx = w4)
  case first =>
    have y1 : (0 : Int) ≤ (k : Int) - (l.first : Int) := by have := HKN.out; omega
    have y2 : (k : Int) - (l.first : Int) ≤ 65536 := by have := HKN.out; omega
    go_wp2
    go_meet
    exact ⟨by rw [HKN.out.2.2], rfl⟩
  obtain ⟨rfl, hwx⟩ := hcut
  rw [hwx]
  clear hwx y3
  have hjp : j < l.places.length := by omega
  obtain ⟨e0, he0⟩ : ∃ e0, e0 = l.places[j] := ⟨_, rfl⟩
  obtain ⟨b5, off5, c5', cs5, hv5, _, hcs5, hcell5⟩ := hps.at_ hjp
  simp only [Value.slice.injEq, true_and] at hv5
  obtain ⟨rfl, rfl⟩ := hv5
  have x1 := hcell5 0 _ (by rw [hcs5]; rfl)
  rw [show off5 + j * rNat.sz + 0 = off5 + j from by show off5 + j * 1 + 0 = _; omega, ← he0] at x1
  have x2 := x1
  rw [show off5 + j = off5 + j * 1 by omega] at x2
  have y5 : w4.cell? ⟨gl, 5, none⟩ = some (.slice (some ⟨b5, off5, none⟩) l.places.length c5) := hbk.cell 5
  have y6 : w4.cell? ⟨gl, 6, none⟩ = some (.int .i64 (l.end_ : Int)) := hbk.cell 6
  have f6 : w4.frozen? ⟨gl, 6, none⟩ = false := hbk.frozen 6
  have HPL := Lib.hid hpl
  clear hpl
  have HE0 : Hid (e0 = l.places.getD j 0) := Lib.hid (by rw [he0, List.getD_eq_getElem?_getD, List.getElem?_eq_getElem hjp]; rfl)
  have H1 := Lib.hid hbk
  clear hcell5 hcs5 he0
  go_upto_region 10 with fail
  refine name_world (fun w5 => Blk w5 gl 97 (lgCs gd { l with end_ := e0 } (.slice A4 l.recs.length c4) (.slice (some ⟨b5, off5, none⟩) l.places.length c5)) ∧ Kp (fun b => b ≠ gl) w4 w5) ⟨H1.out.set_ 6 _, (Kp.refl _ _).setCell (fun _ h => h rfl) _⟩ ?_
  rintro w5 ⟨hbk5, hk5⟩
  clear x1 x2 y5 y6 f6
  obtain ⟨b4, off4, c4', cs4, hv4, hb4, ⟨v4, rfl, hr4⟩, hcell4⟩ := hrs.at_ hlj
  simp only [Value.slice.injEq, true_and] at hv4
  obtain ⟨rfl, rfl⟩ := hv4
  clear hcell4 hr4
  have hrs5 : RSl rBs (fun b => fl b ∧ b ≠ gl) w5 (.slice (some ⟨b4, off4, none⟩) l.recs.length c4) l.recs := RSl.kp (hk5.mono fun b hb => hb.2) hrs
  have hps5 : RSl rNat (fun b => b ≠ gl) w5 (.slice (some ⟨b5, off5, none⟩) l.places.length c5) l.places := RSl.kp hk5 hps
  have hjc : ¬ c4 = j := by omega
  have hdr := hrs5.drop (k := j) (Nat.le_of_lt hlj)
  rw [if_neg hjc] at hdr
  have r4 : w5.cell? ⟨gl, 4, none⟩ = some (.slice (some ⟨b4, off4, none⟩) l.recs.length c4) := hbk5.cell 4
  have hdr : RSl rBs (fun b => fl b ∧ b ≠ gl) w5 (.slice (some ⟨b4, off4 + j, none⟩) (l.recs.length - j) (c4 - j)) (l.recs.drop j) := by
    have h := hdr
    rw [show j * rBs.sz = j from Nat.mul_one j] at h
    simp only [Option.map_some, Addr.add] at h
    have e : (if j = 0 then (⟨b4, off4, none⟩ : Addr) else ⟨b4, off4 + j, none⟩) = ⟨b4, off4 + j, none⟩ := by split <;> simp_all
    rw [e] at h
    exact h
  obtain ⟨rs2, hrs2⟩ : ∃ rs2, rs2 = l.recs.drop j := ⟨_, rfl⟩
  have hl2 : rs2.length = l.recs.length - j := by rw [hrs2, List.length_drop]
  have hrle : ∀ r ∈ rs2, r.length ≤ 32768 := fun r hr => hlok.recs r (by rw [hrs2] at hr; exact List.mem_of_mem_drop hr)
  have hs2 : secSum rs2 ≤ l.used := by
    have := secSum_td l.recs j
    rw [← hrs2] at this
    have := HUS.out
    omega
  rw [← hrs2] at hdr
  obtain ⟨us, husd⟩ : ∃ us : Nat → Nat, us = fun i => l.used - secSum (rs2.take i) := ⟨_, rfl⟩
  have hus0 : us 0 = l.used := by rw [husd]; rfl
  have hud := HOK.out.used
  have husS : ∀ i (hi : i < rs2.length), us i = us (i + 1) + secN rs2[i].length ∧ us i ≤ 65536 := fun i hi => by
    have e1 := secSum_succ rs2 i hi
    have e2 := secSum_take rs2 (i + 1)
    rw [husd]
    simp only
    rw [e1] at e2 ⊢
    omega
  have husZ : us rs2.length = l.used - secSum rs2 := by rw [husd]; simp only; rw [List.take_length]
  have hbl0 : Blk w5 gl 97 (lgCs gd { l with end_ := e0, used := us 0 } (.slice (some ⟨b4, off4, none⟩) l.recs.length c4) (.slice (some ⟨b5, off5, none⟩) l.places.length c5)) := by rw [hus0]; exact hbk5
  have HUSS := Lib.hid husS
  have HUSZ := Lib.hid husZ
  have HRS2 := Lib.hid hrs2
  have HRLE := Lib.hid hrle
  have HK5 := Lib.hid hk5
  have HDR := Lib.hid hdr
  have HRS5 := Lib.hid hrs5
  have HPS5 := Lib.hid hps5
  have HHL2 := Lib.hid hl2
  have HLOK := Lib.hid hlok
  clear hus0 husd hrs2 hs2 husS husZ hrle hk5 hdr hrs5 hps5 hl2 hbk5 hud hlok hjp hjc
  go_upto_region 10 with fail
  go_wp2_with fail
  obtain ⟨m, hm⟩ : ∃ m, m = l.recs.length - j := ⟨_, rfl⟩
  rw [← hm]
  have hmr : m = rs2.length := by rw [hm, HHL2.out]
  have hmb : m ≤ 65536 := by omega
  have HMR := Lib.hid hmr
  have HDM := HDR.out
  rw [← hm] at HDM
  have HDM := Lib.hid HDM
  clear hm hmr r4 HDR
  go_loopw [56] (fun vj wr => ∃ i : Nat, i ≤ m ∧ vj = .int .i64 (i : Int) ∧ Blk wr gl 97 (lgCs gd { l with end_ := e0, used := us i } (.slice (some ⟨b4, off4, none⟩) l.recs.length c4) (.slice (some ⟨b5, off5, none⟩) l.places.length c5)) ∧ Kp (fun b => b ≠ gl) w5 wr) (fun vj _ => m - (intOf vj).toNat)
  case atStart => exact ⟨0, Nat.zero_le _, rfl, hbl0, Kp.refl _ _⟩
  clear hbl0
  case round =>
    obtain ⟨i, hi, rfl, hbl, hkk⟩ := hrel
    by_cases hin : i < m
    · have u0 : decide ((i : Int) < (m : Int)) = true := decide_eq_true (by omega)
      have hir : i < rs2.length := by rw [← HMR.out]; exact hin
      have hU := HUSS.out i hir
      have hrl2 := HRLE.out _ (List.getElem_mem hir)
      obtain ⟨b9, off9, c9, cs9, hv9, hb9, ⟨v9, rfl, hr9⟩, hcell9⟩ := HDM.out.at_ hir
      simp only [Value.slice.injEq, Option.some.injEq, Addr.mk.injEq, and_true] at hv9
      obtain ⟨⟨rfl, rfl⟩, _, rfl⟩ := hv9
      obtain ⟨A9, c9, rfl, hc9, _⟩ := hr9.form
      have x1 := hkk.cell (p := ⟨b4, off4 + j + i, none⟩) hb9.2 (by have := hcell9 0 _ rfl; rw [show off4 + j + i * rBs.sz + 0 = off4 + j + i from by show off4 + j + i * 1 + 0 = _; omega] at this; exact this)
      have x2 := x1
      rw [show off4 + j + i = off4 + j + i * 1 by omega] at x2
      obtain ⟨mm, hmm⟩ : ∃ mm, mm = rs2[i].length := ⟨_, rfl⟩
      rw [← hmm] at hU hrl2 x1 x2
      obtain ⟨uu, huu⟩ : ∃ uu, uu = us (i + 1) := ⟨_, rfl⟩
      obtain ⟨u, hu⟩ : ∃ u, u = us i := ⟨_, rfl⟩
      rw [← huu, ← hu] at hU
      obtain ⟨sn, hsn⟩ : ∃ sn, sn = secN mm := ⟨_, rfl⟩
      have hSec := fun w => sectors_any mm (by omega) w
      rw [← hsn] at hU hSec
      have y7 : ∀ s : Later wr, s.val.cell? ⟨gl, 7, none⟩ = some (.int .i64 (u : Int)) := Later.cell (by rw [hu]; exact hbl.cell 7)
      have HU := Lib.hid hu
      have HUU := Lib.hid huu
      have HHU := Lib.hid hU.1
      have hU2 := hU.2
      have hU3 : sn ≤ u := by omega
      clear hcell9 hr9 hmm hsn hu huu hU
      go_upto_region 13 with fail
      refine wp_seqB (fun b => b = gl) 10 [6, 10] (by as_aux_lemma => kernel_rfl) (by as_aux_lemma => kernel_rfl) fun w16 hb16 => ?_
      refine seqB_pre 3 (by kernel_rfl) ?_
      simp only [List.take_succ_cons, List.take_zero, List.drop_succ_cons, List.drop_zero]
      repeat (go_big_quiet_step (fail))
      refine wpQuiet_nil ?_
      refine seqB_pre0 1 (by kernel_rfl) (by kernel_rfl) ?_
      simp only [List.take_succ_cons, List.take_zero, List.drop_succ_cons, List.drop_zero]
      repeat (go_big_quiet_step (fail))
      refine wpQuiet_nil ?_
      refine seqB_pre 2 (by kernel_rfl) ?_
      simp only [List.take_succ_cons, List.take_zero, List.drop_succ_cons, List.drop_zero]
      repeat (go_big_quiet_step (fail))
      refine wpQuiet_nil ?_
      refine seqB_wild0 hb16 rfl rfl fun K hK => ?_
      unfold Gives
      go_simp
      refine (hSec _).mono ?_
      rintro e w17 ⟨rfl, rfl⟩
      refine ⟨_, rfl, hK _ _ ((Below.refl _ _)) fun hb17 => ?_⟩
      clear hK
      clear K
      simp only [Act.put, List.setIfInBounds_toArray, List.set_cons_succ, List.set_cons_zero]
      refine seqB_pre 3 (by kernel_rfl) ?_
      simp only [List.take_succ_cons, List.take_zero, List.drop_succ_cons, List.drop_zero]
      repeat (go_big_quiet_step (fail))
      refine wpQuiet_nil ?_
      have hbl17 := hbl.below hb16 hbl.lt
      have fg := fun i => hbl17.frozen i
      have y717 : w17.cell? ⟨gl, 7, none⟩ = some (.int .i64 (u : Int)) := by rw [HU.out]; exact hbl17.cell 7
      refine seqB_wild (Kp.of_below hb17) rfl rfl fun K hK => ?_
      unfold Gives
      go_simp
      have hkp : ∀ u, Kp (fun x => ¬ x = gl) w17 (w17.setCell ⟨gl, 7, none⟩ u) := fun u => (Kp.refl _ _).setCell (fun _ h => h rfl) _
      refine hK _ _ (hkp _) fun hK18 => ?_
      clear hK
      clear K
      simp only [Act.put, List.setIfInBounds_toArray, List.set_cons_succ, List.set_cons_zero]
      refine seqB_nil ?_
      have hfin : ∀ z, z = .int .i64 (uu : Int) → Blk (w17.setCell ⟨gl, 7, none⟩ z) gl 97 (lgCs gd { l with end_ := e0, used := us (i + 1) } (.slice (some ⟨b4, off4, none⟩) l.recs.length c4) (.slice (some ⟨b5, off5, none⟩) l.places.length c5)) := fun z hz => by
        rw [hz, HUU.out]
        exact hbl17.set_ 7 _
      have hK15z := hkk.trans hK18
      have HFIN := Lib.hid hfin
      clear hfin y7 y717 fg
      go_wp2
      go_roundw
      case rel => exact ⟨i + 1, by omega, by go_num, HFIN.out _ (by first | rfl | (congr 1; have := HHU.out; omega)), hK15z⟩
      case measure => simp [intOf]; omega
    · obtain rfl : i = m := by omega
      have u0 : decide ((i : Int) < (i : Int)) = false := decide_eq_false (by omega)
      have hbl2 : Blk wr gl 97 (lgCs gd { l with end_ := e0, used := l.used - secSum rs2 } (.slice (some ⟨b4, off4, none⟩) l.recs.length c4) (.slice (some ⟨b5, off5, none⟩) l.places.length c5)) := by
        have h := hbl
        rw [HMR.out, HUSZ.out] at h
        exact h
      have hkk2 : Kp (fun b => b ≠ gl) w4 wr := HK5.out.trans hkk
      have hzr := hkk2.size
      have g4 : ∀ s : Later wr, s.val.cell? ⟨gl, 4, none⟩ = some (.slice (some ⟨b4, off4, none⟩) l.recs.length c4) := Later.cell (hbl2.cell 4)
      have g5 : ∀ s : Later wr, s.val.cell? ⟨gl, 5, none⟩ = some (.slice (some ⟨b5, off5, none⟩) l.places.length c5) := Later.cell (hbl2.cell 5)
      have hdr := HRS5.out.take (k := j) (Nat.le_of_lt hlj)
      have hdp := HPS5.out.take (k := j) (by rw [HPL.out]; exact Nat.le_of_lt hlj)
      have HDR := Lib.hid (RSl.kp (hkk.mono fun b hb => hb.2) hdr)
      have HDP := Lib.hid (RSl.kp hkk hdp)
      have hjl : j ≤ l.recs.length := Nat.le_of_lt hlj
      have hjp2 : j ≤ l.places.length := by rw [HPL.out]; exact hjl
      have hpl3 : l.places.length ≤ 65536 := by rw [HPL.out]; exact hrl
      clear hdr hdp hbl hkk
      go_upto_region 15 with fail
      refine wp_seqB (fun b => b = gl) 18 [8, 15, 18, 21] (by as_aux_lemma => kernel_rfl) (by as_aux_lemma => kernel_rfl) fun w17 hb17 => ?_
      refine seqB_pre 5 (by kernel_rfl) ?_
      simp only [List.take_succ_cons, List.take_zero, List.drop_succ_cons, List.drop_zero]
      repeat (go_big_quiet_step (fail))
      refine wpQuiet_nil ?_
      refine seqB_pre0 1 (by kernel_rfl) (by kernel_rfl) ?_
      simp only [List.take_succ_cons, List.take_zero, List.drop_succ_cons, List.drop_zero]
      repeat (go_big_quiet_step (fail))
      refine wpQuiet_nil ?_
      refine seqB_pre 2 (by kernel_rfl) ?_
      simp only [List.take_succ_cons, List.take_zero, List.drop_succ_cons, List.drop_zero]
      repeat (go_big_quiet_step (fail))
      refine wpQuiet_nil ?_
      refine seqB_wild0 hb17 rfl rfl fun K hK => ?_
      unfold Gives
      go_simp
      refine (cloneBs_any _ _ w17 (HDR.out.below hb17) (by rw [List.length_take]; omega)).mono ?_
      rintro e w18 ⟨⟨v18, rfl, ho18⟩, hb18⟩
      refine ⟨_, rfl, hK _ _ (hb18) fun hb18' => ?_⟩
      clear hK
      clear K
      simp only [Act.put, List.setIfInBounds_toArray, List.set_cons_succ, List.set_cons_zero]
      refine seqB_pre 3 (by kernel_rfl) ?_
      simp only [List.take_succ_cons, List.take_zero, List.drop_succ_cons, List.drop_zero]
      repeat (go_big_quiet_step (fail))
      refine wpQuiet_nil ?_
      refine seqB_pre0 1 (by kernel_rfl) (by kernel_rfl) ?_
      simp only [List.take_succ_cons, List.take_zero, List.drop_succ_cons, List.drop_zero]
      repeat (go_big_quiet_step (fail))
      refine wpQuiet_nil ?_
      refine seqB_pre 2 (by kernel_rfl) ?_
      simp only [List.take_succ_cons, List.take_zero, List.drop_succ_cons, List.drop_zero]
      repeat (go_big_quiet_step (fail))
      refine wpQuiet_nil ?_
      refine seqB_wild0 hb18' rfl rfl fun K hK => ?_
      unfold Gives
      go_simp
      refine (cloneNat_any _ _ w18 (HDP.out.below hb18') (by rw [List.length_take]; omega)).mono ?_
      rintro e w19 ⟨⟨v19, rfl, ho19⟩, hb19⟩
      refine ⟨_, rfl, hK _ _ (hb19) fun hb19' => ?_⟩
      clear hK
      clear K
      simp only [Act.put, List.setIfInBounds_toArray, List.set_cons_succ, List.set_cons_zero]
      refine seqB_pre 2 (by kernel_rfl) ?_
      simp only [List.take_succ_cons, List.take_zero, List.drop_succ_cons, List.drop_zero]
      repeat (go_big_quiet_step (fail))
      refine wpQuiet_nil ?_
      have hbl19 := hbl2.below hb19' hbl2.lt
      have ho18' := ho18.below hb19
      have hl18 := ho18.lt
      have hl19 := ho19.lt
      obtain ⟨A18, c18, rfl, _⟩ := ho18'.form
      obtain ⟨A19, c19, rfl, _⟩ := ho19.form
      have fg := fun j => hbl19.frozen j
      have z14 : w19.cell? ⟨gl, 4, none⟩ = some (.slice (some ⟨b4, off4, none⟩) l.recs.length c4) := hbl19.cell 4
      have z15 : w19.cell? ⟨gl, 5, none⟩ = some (.slice (some ⟨b5, off5, none⟩) l.places.length c5) := hbl19.cell 5
      obtain ⟨n18, hn18⟩ : ∃ n18, n18 = (l.recs.take j).length := ⟨_, rfl⟩
      obtain ⟨n19, hn19⟩ : ∃ n19, n19 = (l.places.take j).length := ⟨_, rfl⟩
      rw [← hn18] at ho18' hl18 ⊢
      rw [← hn19] at ho19 hl19 ⊢
      have HN18 := Lib.hid hn18
      have HN19 := Lib.hid hn19
      clear hn18 hn19
      have hkp : ∀ (w : World) o u, Kp (fun b => ¬ b = gl) w (w.setCell ⟨gl, o, none⟩ u) := fun w o u => (Kp.refl _ _).setCell (fun _ h => h rfl) _
      refine seqB_wild (Kp.of_below hb19') rfl rfl fun K hK => ?_
      unfold Gives
      go_simp
      refine hK _ _ (hkp _ _ _) fun hK20 => ?_
      clear hK
      clear K
      simp only [Act.put, List.setIfInBounds_toArray, List.set_cons_succ, List.set_cons_zero]
      refine seqB_pre 2 (by kernel_rfl) ?_
      simp only [List.take_succ_cons, List.take_zero, List.drop_succ_cons, List.drop_zero]
      repeat (go_big_quiet_step (fail))
      refine wpQuiet_nil ?_
      refine seqB_wild hK20 rfl rfl fun K hK => ?_
      unfold Gives
      go_simp
      refine hK _ _ (hkp _ _ _) fun hK21 => ?_
      clear hK
      clear K
      simp only [Act.put, List.setIfInBounds_toArray, List.set_cons_succ, List.set_cons_zero]
      refine seqB_nil ?_
      have hz17 := hb17.size
      have hz18 := hb18.size
      have hz19 := hb19.size
      have hltr : gl < wr.heap.size := hbl2.lt
      have hflz : ∀ b, fl b → b < w4.heap.size := fun b hb => (h1 b hb).2
      have hng18 : (Value.slice A18 n18 c18).ownBlock ≠ some gl := fun e => by have := (hl18 _ e).1; omega
      have hng19 : (Value.slice A19 n19 c19).ownBlock ≠ some gl := fun e => by have := (hl19 _ e).1; omega
      have hap : ∀ b, (Value.slice A18 n18 c18).ownBlock = some b → (Value.slice A19 n19 c19).ownBlock ≠ some b := fun b e e2 => by have := (hl18 _ e).2; have := (hl19 _ e2).1; omega
      have hKs : Kp (fun b => b ≠ gl) w19 ((w19.setCell ⟨gl, 4, none⟩ (.slice A18 n18 c18)).setCell ⟨gl, 5, none⟩ (.slice A19 n19 c19)) := ((Kp.refl _ _).setCell (fun _ h => h rfl) _).setCell (fun _ h => h rfl) _
      have hblz := (hbl19.set_ 4 (.slice A18 n18 c18)).set_ 5 (.slice A19 n19 c19)
      have hoz : OwnL rBs (fun b => (fl b ∨ w4.heap.size ≤ b) ∧ b ≠ gl ∧ some b ≠ (Value.slice A19 n19 c19).ownBlock) 0 25 ((w19.setCell ⟨gl, 4, none⟩ (.slice A18 n18 c18)).setCell ⟨gl, 5, none⟩ (.slice A19 n19 c19)) (.slice A18 n18 c18) (l.recs.take j) :=
        ((ho18'.base_ (Nat.zero_le _)).kp hKs (fun b hb => hb.2) (fun b hb e => hng18 (by rw [hb, e]))).monoW fun b hb _ => ⟨.inl hb.1, hb.2, fun e => by have := (hl19 _ e.symm).1; have := hflz b hb.1; omega⟩
      have hpz : OwnL rNat (fun _ => False) 0 3 ((w19.setCell ⟨gl, 4, none⟩ (.slice A18 n18 c18)).setCell ⟨gl, 5, none⟩ (.slice A19 n19 c19)) (.slice A19 n19 c19) (l.places.take j) :=
        (ho19.base_ (Nat.zero_le _)).kp hKs (fun _ h => h.elim) (fun b hb e => hng19 (by rw [hb, e]))
      have hKz : Kp (fun b => b ≠ gl) w4 ((w19.setCell ⟨gl, 4, none⟩ (.slice A18 n18 c18)).setCell ⟨gl, 5, none⟩ (.slice A19 n19 c19)) := hkk2.trans hK21
      have hDz : DiskR (fun x => fd x ∧ x < w4.heap.size) ((w19.setCell ⟨gl, 4, none⟩ (.slice A18 n18 c18)).setCell ⟨gl, 5, none⟩ (.slice A19 n19 c19)) gd d := (h5.mono (ft' := fun x => fd x ∧ x < w4.heap.size) fun b hb hlt => ⟨hb, hlt⟩).kp hKz fun b hb e => h3 b hb.1 (e ▸ hfl)
      have HBLZ := Lib.hid hblz
      have HOZ := Lib.hid hoz
      have HPZ := Lib.hid hpz
      have HDZ := Lib.hid hDz
      have HKZ := Lib.hid hKz
      have HNG := Lib.hid (And.intro hng18 (And.intro hng19 hap))
      have HLL := Lib.hid (And.intro hl18 hl19)
      clear hblz hoz hpz hDz hKz hng18 hng19 hap hKs z14 z15 fg hbl2 hbl19 ho18 ho18' ho19 g4 g5 hkp hK20 hK21 hl18 hl19
      obtain ⟨wS, hwS⟩ : ∃ wS, wS = (w19.setCell ⟨gl, 4, none⟩ (.slice A18 n18 c18)).setCell ⟨gl, 5, none⟩ (.slice A19 n19 c19) := ⟨_, rfl⟩
      rw [← hwS] at HBLZ HOZ HPZ HDZ HKZ ⊢
      have y8 : wS.cell? ⟨gl, 8, none⟩ = some (.bool l.waits) := HBLZ.out.cell 8
      have f8 : wS.frozen? ⟨gl, 8, none⟩ = false := HBLZ.out.frozen 8
      have hzS := HKZ.out.size
      have hzSb : w19.heap.size ≤ wS.heap.size := by
        rw [hwS]
        exact (((Kp.refl (fun b => b ≠ gl) w19).setCell (fun _ h => h rfl) _).setCell (fun _ h => h rfl) _ : Kp (fun b => b ≠ gl) w19 _).size
      clear hwS
      go_upto_region 17 with fail
      refine name_world (fun w20 => Blk w20 gl 97 (lgCs gd (backL l j) (.slice A18 n18 c18) (.slice A19 n19 c19)) ∧ Kp (fun b => b ≠ gl) wS w20) ⟨by have h := HBLZ.out.set_ 8 (.bool false); rw [HE0.out, HRS2.out] at h; exact h, (Kp.refl _ _).setCell (fun _ h => h rfl) _⟩ ?_
      rintro w20 ⟨hb20, hk20⟩
      have hz20 := hk20.size
      have hlo := HLOK.out
      have htd := secSum_td l.recs j
      have hus := HUS.out
      have hng := HNG.out
      have hll := HLL.out
      have hL20 : LogR (fun b => (fl b ∨ w4.heap.size ≤ b) ∧ b < w20.heap.size) w20 gl gd (backL l j) := by
        refine LogR.mono (ft := fun b => fl b ∨ w4.heap.size ≤ b) ⟨_, _, hb20, HOZ.out.kp hk20 (fun b hb => hb.2.1) (fun b hb e => hng.1 (by rw [hb, e])), HPZ.out.kp hk20 (fun _ h => h.elim) (fun b hb e => hng.2.1 (by rw [hb, e])), fun e => hng.1 e.symm, fun e => hng.2.1 e.symm, hng.2.2, .inl hfl, fun b hb => .inr (by have := (hll.1 b hb).1; omega), fun b hb => .inr (by have := (hll.2 b hb).1; omega), ⟨hlo.turn, ?_, fun r hr => hlo.recs r (List.mem_of_mem_take hr), ?_, fun r hr => hlo.placed r (List.mem_of_mem_take hr), ?_, ?_⟩⟩ fun b hb hlt => ⟨hb, hlt⟩
        · show l.first + (l.recs.take j).length < _
          rw [List.length_take]
          have := hlo.first
          omega
        · show (l.places.take j).length = (l.recs.take j).length
          rw [List.length_take, List.length_take, HPL.out]
        · show l.places.getD j 0 < _
          rw [List.getD_eq_getElem?_getD, List.getElem?_eq_getElem (by rw [HPL.out]; exact hlj)]
          exact hlo.placed _ (List.getElem_mem _)
        · show l.used - _ ≤ _
          have := hlo.used
          omega
      have hD20 := HDZ.out.kp hk20 fun b hb e => h3 b hb.1 (e ▸ hfl)
      have hz4 := HK4.out.size
      have hB20 : Both (fun x => f x ∨ w1.heap.size ≤ x) w20 gl gd (backL l j) d := (Both.mk_ hL20 hD20 fun x hx _ hl => hl.1.elim (fun h => h3 x hx.1 h) fun h => by have := hx.2; omega).mono fun b hb _ => hb.elim (fun h => h.1.elim (fun h => .inl (h1 b h).1) fun h => .inr (by omega)) fun h => .inl (h2 b h.1).1
      have hTL := tell_any 0 hB20 (Nat.zero_le _) (by show l.used - secSum (l.recs.drop j) = secSum (l.recs.take j); omega) HTU.out HWL.out
      rw [HBU.out.1] at hTL
      have HTL := Lib.hid hTL
      have hK20 : Kp (fun x => ¬ f x) w1 w20 := (HK4.out.thenW HKZ.out fun b _ hb e => hb (e ▸ (h1 _ hfl).1)).thenW hk20 fun b _ hb e => hb (e ▸ (h1 _ hfl).1)
      have HK20 := Lib.hid hK20
      clear hTL hB20 hL20 hD20 hK20 hll hng hlo htd hus hb20 hk20 y8 f8 HBLZ HOZ HPZ HDZ HKZ HLL HNG
      go_wp2_with fail
      refine HTL.out.mono ?_
      rintro e w21 ⟨rfl, hB21, hK21⟩
      have HMT := Lib.hid (met_b hB21 0)
      have hz21 := hK21.size
      have hK21' : Kp (fun x => ¬ f x) w1 w21 := HK20.out.thenW hK21 fun b hlt hb h => h.elim hb fun h => by omega
      have HK21 := Lib.hid hK21'
      have hg21 := hB21.glf
      clear hB21 hK21 hK21' HTL
      go_wp2_with fail
      refine HMT.out.mono ?_
      rintro e w22 ⟨rfl, hB22, hK22⟩
      have HB22 := Lib.hid hB22
      have HK22 : Hid (Kp (fun x => ¬ f x) w1 w22) := Lib.hid (HK21.out.thenW hK22 fun b hlt hb e => by
        rcases hg21 with (h | h) | h
        · exact hb (e ▸ h)
        · omega
        · omega)
      clear hB22 hK22 HMT
      go_wp2
      go_ret
      obtain ⟨_, hde, rs', hu, hr⟩ := HBU.out
      refine ⟨rfl, ?_, HK22.out⟩
      have hB := HB22.out
      rw [hde] at hB
      have e1 : ∀ x : LogD, x.dead = false → ({ x with dead := false || (0 : Int) == 3 } : LogD) = x := fun x hx => by cases x; cases hx; rfl
      rw [e1 _ hde] at hB
      refine ⟨_, _, rs', hB.mono fun x hx hlt => ?_, HFI.out ▸ hu, hr⟩
      rcases hx with (h | h) | h
      · exact .inl h
      · exact .inr ⟨h, hlt⟩
      · exact .inr ⟨by omega, hlt⟩
end Go.Proofs.YtnlhjhpikjmoaaaGreatDoor
namespace Go.Proofs.YtnlhjhpikjmoaaaGreatDoor
theorem grp_part {had f t : VLog} {kind : Th} {b : Bool} (hk : ∀ c e, stepT had ⟨c, false, e⟩ kind = ⟨f, b, false⟩) (hkk : kind = .beg ∨ kind = .fol) (hf : conE f.si f.es) (hfs : f.si ≤ 4611686018427387904) (hfl : f.es.length ≤ 100000) (ht : fitV t) (s : RS) (hs : s.log = had) (hnl : s.next.es.length ≤ 100000) (hns : s.next.si ≤ 4611686018427387904) (hal : had.es.length ≤ 100000) (has : had.si ≤ 4611686018427387904) :
    ∃ gs : List (List Th), recordsV f t kind = gs.map flatT ∧ goodR s gs ∧ ∀ j, j < gs.length → ∃ nx fr, (gs.take j).foldl stepR s = ⟨s.log, nx, fr, s.first, s.whole, s.n + j⟩ := by
  have hkl : (encT kind).length ≤ 32768 := by rcases hkk with rfl | rfl <;> decide
  obtain ⟨gs, q, h1, h2⟩ := recordsV_groups f t kind hkl
  have hth := fold_things (had := had) hf (rightV_con ht.1) (rightV_vote ht.1).1 ⟨s.next, false, false⟩ b (hk _ _)
  rw [thingsV_last, List.foldl_append] at hth
  have hcur : ((thingsV f t kind).dropLast.foldl (stepT had) ⟨s.next, false, false⟩).cur = t := by
    have := congrArg RdS.cur hth
    exact this
  subst hs
  have hfl2 : gs.flatten ++ q = (thingsV f t kind).dropLast := by
    rcases h2 with ⟨rfl, q', h3, h4, _⟩ | ⟨g, gs', rfl, h4, _⟩
    · rw [List.flatten_nil, List.nil_append, h4]
    · rw [List.flatten_cons]
      exact h4
  obtain ⟨t1, t2, t3⟩ := things_fit (f := f) (t := t) hkk hf hfs hfl ht
  refine ⟨gs ++ [q ++ [Th.fin]], h1, ?_, ?_⟩
  · refine goodR_group 4611686018427387904 0 (Nat.le_refl _) q gs s 100000 (by rw [hfl2]; exact t1) hnl hal (by rw [hfl2]; omega) hns has (by rw [hfl2]; omega) ?_
    rw [hfl2, hcur]
    exact ht.1
  · intro j hj
    rw [List.length_append, List.length_singleton] at hj
    rw [List.take_append_of_le_length (by omega)]
    rcases h2 with ⟨rfl, _⟩ | ⟨g, gs', rfl, h4, h5⟩
    · obtain rfl : j = 0 := by simpa using hj
      exact ⟨_, _, rfl⟩
    · cases j with
      | zero => exact ⟨_, _, rfl⟩
      | succ j =>
        rw [List.take_succ_cons, fold_stepR_part kind b f hk g (gs'.take j) s rfl fun x hx => h5 x (by
          refine List.mem_append_left _ ?_
          rcases List.mem_append.1 hx with h | h
          · exact List.mem_append_left _ h
          · refine List.mem_append_right _ ?_
            obtain ⟨y, hy, hxy⟩ := List.mem_flatten.1 h
            exact List.mem_flatten.2 ⟨y, List.mem_of_mem_take hy, hxy⟩)]
        have hlt : (gs'.take j).length = j := by rw [List.length_take, Nat.min_eq_left (by rw [List.length_cons] at hj; omega)]
        rw [hlt]
        exact ⟨_, _, rfl⟩
theorem goodR_take : ∀ {gs : List (List Th)} {s : RS} (j : Nat), goodR s gs → goodR s (gs.take j)
  | [], _, j, _ => by rw [List.take_nil]; trivial
  | _ :: _, _, 0, _ => trivial
  | _ :: _, _, j + 1, h => ⟨h.1, goodR_take j h.2⟩
def PartV (l : VLog) (R : List (List UInt8)) : Prop := R = [] ∨ ∃ (f t : VLog) (kind : Th) (j : Nat), ((kind = .fol ∧ f = l) ∨ (kind = .beg ∧ f = VLog.zero)) ∧ fitV t ∧ j < (recordsV f t kind).length ∧ R = (recordsV f t kind).take j
theorem Grps.part {rs R : List (List UInt8)} {l : VLog} {i : Nat} (h : Grps rs l i) (hp : PartV l R) (n0 : Nat) :
    ∃ gs : List (List Th), rs ++ R = gs.map flatT ∧ goodR ⟨VLog.zero, VLog.zero, n0, n0, n0, n0⟩ gs ∧ ∃ nx fr, gs.foldl stepR ⟨VLog.zero, VLog.zero, n0, n0, n0, n0⟩ = ⟨l, nx, fr, n0 + i, n0 + rs.length, n0 + (rs ++ R).length⟩ := by
  obtain ⟨gs, h1, hg1, nx, hnx, h2⟩ := h.good n0
  rcases hp with rfl | ⟨f, t, kind, j, hk, ht, hj, rfl⟩
  · exact ⟨gs, by rw [List.append_nil, h1], hg1, nx, _, by rw [h2, List.append_nil]⟩
  obtain ⟨b, hkk, hkb, hcf, hfs, hfl⟩ : ∃ b, (∀ c e, stepT l ⟨c, false, e⟩ kind = ⟨f, b, false⟩) ∧ (kind = .beg ∨ kind = .fol) ∧ conE f.si f.es ∧ f.si ≤ 4611686018427387904 ∧ f.es.length ≤ 100000 := by
    rcases hk with ⟨rfl, rfl⟩ | ⟨rfl, rfl⟩
    · exact ⟨false, fol_step _, .inr rfl, h.con, h.fit.2, h.fit.1⟩
    · exact ⟨true, beg_step _, .inl rfl, trivial, by decide, by decide⟩
  obtain ⟨q, h3, hg3, h4⟩ := grp_part (had := l) (f := f) (t := t) hkk hkb hcf hfs hfl ht ⟨l, nx, n0 + i, n0 + i, n0 + rs.length, n0 + rs.length⟩ rfl hnx.1 hnx.2 h.fit.1 h.fit.2
  have hql : (recordsV f t kind).length = q.length := by rw [h3, List.length_map]
  obtain ⟨nx', fr', h5⟩ := h4 j (by omega)
  refine ⟨gs ++ q.take j, by rw [List.map_append, ← h1, h3, List.map_take], goodR_append hg1 (by rw [h2]; exact goodR_take j hg3), nx', fr', ?_⟩
  rw [List.foldl_append, h2, h5, List.length_append, List.length_take, Nat.min_eq_left (Nat.le_of_lt hj), Nat.add_assoc]
end Go.Proofs.YtnlhjhpikjmoaaaGreatDoor
namespace Go.Proofs.YtnlhjhpikjmoaaaGreatDoor
open Go.RowKit
theorem back_both {f : Nat → Prop} {w : World} {gl gd n T first : Nat} {R1 R2 : List (List UInt8)} (h : LogS f w gl gd n T first (R1 ++ R2) []) (hT : T + 1 < 256) (k : Nat) (hk : k = first + R1.length) :
    Calls Tryz.prog 35 #[.pointer (some ⟨gl, 0, none⟩), .int .u64 (k : Int)] w fun e w' => e = .returned (.int .i64 0) ∧ (∃ T', T' ≤ T + 1 ∧ LogS (fun x => f x ∨ (w.heap.size ≤ x ∧ x < w'.heap.size)) w' gl gd n T' first R1 []) ∧ Kp (fun x => ¬ f x) w w' := by
  by_cases h2 : R2 = []
  · subst h2
    rw [List.append_nil] at h
    refine (backS_any h h.u.gl_ k hk).mono ?_
    rintro e w' ⟨rfl, hL, hK⟩
    exact ⟨rfl, ⟨T, Nat.le_succ _, hL.mono fun x hx _ => .inl hx⟩, hK⟩
  · rw [hk]
    refine (back_opS h hT (j := R1.length) (by rw [List.length_append]; have := List.length_pos_iff.2 h2; omega)).mono ?_
    rintro e w' ⟨rfl, hL, hK⟩
    rw [List.take_left] at hL
    exact ⟨rfl, ⟨T + 1, Nat.le_refl _, hL⟩, hK⟩
set_option maxRecDepth 100000 in
set_option maxHeartbeats 3200000 in
theorem vopen_part {f : Nat → Prop} {w : World} {gd n T first c i : Nat} {R1 R2 : List (List UInt8)} {l : VLog} (hop : Calls Tryz.prog 31 #[.pointer (some ⟨gd, 0, none⟩)] w fun e w' => (∃ g2, e = .returned (.tuple #[.pointer (some ⟨g2, 0, none⟩), .int .i64 0]) ∧ LogS (fun x => f x ∨ (w.heap.size ≤ x ∧ x < w'.heap.size)) w' g2 gd n T first (R1 ++ R2) []) ∧ Kp (fun x => ¬ f x) w w') (hg : Grps R1 l i) (hp : PartV l R2) (hs : secSum (R1.drop i) ≤ (n - 2) / 3 * 2) (hrl : (R1 ++ R2).length ≤ 65536) (hn : n ≤ 65536) (hf : ∀ x, f x → x < w.heap.size) (hT : T + 2 ≤ c) (hc : c < 256) (hfi : first + 65536 ≤ 70000 * c) :
    Calls Tryz.prog 14 #[.pointer (some ⟨gd, 0, none⟩)] w fun e w' => (∃ gv, e = .returned (.tuple #[.pointer (some ⟨gv, 0, none⟩), .nilIface]) ∧ VltS (fun x => f x ∨ (w.heap.size ≤ x ∧ x < w'.heap.size)) w' gv gd n c l) ∧ Kp (fun x => ¬ f x) w w' := by
  have HO := Lib.hid hop
  have HF := Lib.hid hf
  have HG := Lib.hid hg
  have HS := Lib.hid hs
  have HT := Lib.hid hT
  have HFI := Lib.hid hfi
  obtain ⟨gs, hrs, hgood, nx, fr, hfold⟩ := hg.part hp first
  have hile := hg.le
  have hile2 : i ≤ 65536 := by rw [List.length_append] at hrl; omega
  have HILE := Lib.hid hile
  have hgl : gs.length ≤ 65536 := by rw [hrs, List.length_map] at hrl; exact hrl
  have HGO := Lib.hid hgood
  have HFO := Lib.hid hfold
  have HGL := Lib.hid hgl
  have HRS := Lib.hid hrs
  have H64 : Hid (first + 70000 < 18446744073709551616) := Lib.hid (by omega)
  have HLE := Lib.hid hg.fit.1
  have HC := Lib.hid hc
  have HILE2 := Lib.hid hile2
  clear hop hf hg hs hT hfi hgood hfold hrl hgl hrs hn hc hile hile2 hp
  go_enter Tryz.func14, Tryz.ntmps14
  go_wp2_with fail
  refine HO.out.mono ?_
  rintro e w1 ⟨⟨gl, rfl, hL⟩, hK1⟩
  have HL := Lib.hid hL
  have HK1 := Lib.hid hK1
  have HN1 : Hid (∀ x, f x ∨ (w.heap.size ≤ x ∧ x < w1.heap.size) → x < w1.heap.size) := Lib.hid fun x hx => hx.elim (fun h => by have := HF.out x h; have := hK1.size; omega) fun h => h.2
  clear hL hK1 HO
  go_upto_region 5 with fail
  obtain ⟨gv, hgv⟩ : ∃ gv, gv = w1.heap.size := ⟨_, rfl⟩
  refine name_world (fun w2 => Blk w2 gv 74 #[.pointer (some ⟨gl, 0, none⟩), .int .u64 0, .int .i64 0, .int .u64 0, .int .u64 0, .slice none 0 0, .slice none 0 0] ∧ Below w1.heap.size w1 w2) ⟨by rw [hgv]; exact Blk.new _ _ _, (Below.refl _ _).alloc (Nat.le_refl _) _⟩ ?_
  rintro w2 ⟨kv, hB2⟩
  rw [← hgv]
  have HGV := Lib.hid hgv
  have hz2 := hB2.size
  have HGN : Hid (¬ (f gv ∨ (w.heap.size ≤ gv ∧ gv < w1.heap.size))) := Lib.hid fun h => by have := HN1.out gv h; omega
  clear hgv
  have hL2 := HL.out.below hB2
  have HL2 := Lib.hid hL2
  have HL2' := HL2
  rw [HRS.out] at hL2
  have HR := Lib.hid (vread_any kv hL2 HGN.out (fun x hx => by have := HN1.out x hx; omega) HGO.out HGL.out H64.out)
  have HKV := Lib.hid kv
  have HB2 := Lib.hid hB2
  have HZ2 := Lib.hid hz2
  clear kv hL2 hB2 hz2
  go_wp2_with fail
  refine HR.out.mono ?_
  rintro e w3 ⟨⟨S, hS, rfl, vsd, ves, hb3, hm3⟩, hK3⟩
  rw [HFO.out] at hS
  obtain ⟨k1, hk1⟩ : ∃ k1, k1 = S.first := ⟨_, rfl⟩
  obtain ⟨k2, hk2⟩ : ∃ k2, k2 = S.whole := ⟨_, rfl⟩
  rw [← hk1, ← hk2]
  have hlog : S.log = l := by rw [hS]
  have H1 := Lib.hid (show k1 = first + i by rw [hk1, hS])
  have H2 := Lib.hid (show k2 = first + R1.length by rw [hk2, hS])
  rw [hlog] at hb3 hm3
  clear hS hk1 hk2 hlog
  have hL3 := HL2.out.kp hK3 (fun x hx e => HGN.out (e ▸ hx))
  have hz3 := hK3.size
  have HBK := Lib.hid (back_both hL3 (by have := HT.out; have := HC.out; omega) k2 H2.out)
  have HB3 := Lib.hid hb3
  have HM3 := Lib.hid hm3
  have HK3 := Lib.hid hK3
  have HZ3 := Lib.hid hz3
  have c3 : w3.cell? ⟨gv, 0, none⟩ = some (.pointer (some ⟨gl, 0, none⟩)) := hb3.cell 0
  clear hL3 HR hb3 hm3 hK3 hz3
  go_wp2_with fail
  refine HBK.out.mono ?_
  rintro e w4 ⟨rfl, ⟨T4, hT4, hL4⟩, hK4⟩
  have hz4 := hK4.size
  have HC4 := Lib.hid (cut_opS hL4 (by have := HT.out; have := HC.out; omega) k1 (by have := H1.out; omega) (by rw [List.append_nil]; have := H1.out; have := HILE.out; omega) (by have := H1.out; have := H64.out; have := HILE2.out; have := HFI.out; have := HC.out; omega))
  have HT4 := Lib.hid hT4
  have HK4 := Lib.hid hK4
  have HZ4 := Lib.hid hz4
  clear hL4 hK4 HBK hz4 hT4
  go_wp2_with fail
  refine HC4.out.mono ?_
  rintro e w5 ⟨rfl, ⟨T5, hT5, hL5⟩, hK5⟩
  have hz5 := hK5.size
  rw [List.append_nil, show k1 - first = i by have := H1.out; omega] at hL5
  have HL5 := Lib.hid hL5
  have HT5 := Lib.hid hT5
  have HK5 := Lib.hid hK5
  clear hL5 hK5 HC4 hT5
  go_wp2
  have hgv := HGV.out
  have hz1 := HK1.out.size
  have hz2 := HZ2.out
  have hz3 := HZ3.out
  have hz4 := HZ4.out
  have hz5 := HK5.out.size
  have hnf := HN1.out
  have hK35 : Kp (fun x => ¬ (f x ∨ (w.heap.size ≤ x ∧ x < w1.heap.size))) w3 w5 := HK4.out.trans_new HK5.out
  have kv5 := HB3.out.kp hK35 HGN.out
  have hvl := HKV.out.lt
  have hm5 := HM3.out.mono (ok' := fun b => ¬ (f b ∨ (w.heap.size ≤ b ∧ b < w1.heap.size)) ∧ (w.heap.size ≤ b ∧ b < w3.heap.size) ∧ b ≠ gv) fun b hb hlt => ⟨fun h => by have := hnf b h; omega, by omega, by omega⟩
  have hm5 := hm5.kp (hK35.mono fun b hb => hb.1)
  refine bodyPost_ret (v := .tuple #[.pointer (some ⟨gv, 0, none⟩), .nilIface]) ?_ rfl ⟨⟨gv, rfl, fun x => ((f x ∨ (w.heap.size ≤ x ∧ x < w1.heap.size)) ∨ (w3.heap.size ≤ x ∧ x < w4.heap.size)) ∨ (w4.heap.size ≤ x ∧ x < w5.heap.size), gl, T5, k1, R1.drop i, vsd, ves, ?_, ?_, ?_, by have := HT.out; have := HT4.out; have := HT5.out; omega, by have := HFI.out; have := H1.out; have := HILE2.out; omega, kv5, HL5.out, ?_, HG.out.cut, HS.out, HLE.out⟩, ?_⟩
  · simp [results, Tryz.results14, Act.put, Sem.run_bind, Sem.run_pure, asAddr_ok]
  · intro x hx
    rcases hx with ((hx | hx) | hx) | hx
    · exact .inl hx
    · exact .inr (by omega)
    · exact .inr (by omega)
    · exact .inr (by omega)
  · exact .inr (by omega)
  · intro h
    rcases h with (h | h) | h
    · exact HGN.out h
    · omega
    · omega
  · refine hm5.mono fun b hb hlt => ⟨.inr (by omega), fun h => ?_, hb.2.2⟩
    rcases h with (h | h) | h
    · exact hb.1 h
    · omega
    · omega
  · refine ((HK1.out.trans (.of_below HB2.out)).trans_new (HK3.out.mono fun b hb e => hb (.inr ⟨by omega, by omega⟩))).trans_new (hK35.mono fun b hb h => hb ?_)
    rcases h with h | h
    · exact .inl h
    · exact .inr (by omega)
end Go.Proofs.YtnlhjhpikjmoaaaGreatDoor
