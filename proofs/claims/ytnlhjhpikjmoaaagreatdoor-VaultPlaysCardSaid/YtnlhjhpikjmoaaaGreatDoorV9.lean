/- Contracts: vault.Right, rightEntries.
Contracts: the document's Right.
Contract: (*Disk).Crash.
Contracts: (*Disk).Start, (*Disk).Arm. -/
import Derived.Test.YtnlhjhpikjmoaaaGreatDoorA9
import Derived.Test.YtnlhjhpikjmoaaaGreatDoorS0
import Derived.Lib.MinMax
import Derived.Test.YtnlhjhpikjmoaaaGreatDoorV5
namespace Go.Proofs.YtnlhjhpikjmoaaaGreatDoor
open Go.RowKit
set_option maxRecDepth 100000 in
set_option maxHeartbeats 3200000 in
theorem rightE_any {ok : Nat → Prop} {w : World} {vsd ves : Value} {l : VLog} (h : VLm ok w vsd ves l) (hsi : l.si ≤ 4611686018427387904) :
    Calls Tryz.prog 27 #[.agg (vlCs l vsd ves)] w fun e w' => e = .returned (.bool (rightE l.term (max l.st 1) l.si l.es)) ∧ Below w.heap.size w w' := by
  obtain ⟨As, cs, rfl, _, _⟩ := h.sd.form
  obtain ⟨Ae, ce, rfl, hce, hel⟩ := h.es.form
  obtain ⟨m, hm⟩ : ∃ m, m = l.es.length := ⟨_, rfl⟩
  obtain ⟨ms, hms⟩ : ∃ ms, ms = l.sd.length := ⟨_, rfl⟩
  have hes := h.es
  rw [← hm] at hes hce hel
  have hm40 : m * 40 ≤ 140737488351232 := hel
  rw [← hm, ← hms]
  have HM := Lib.hid hm
  have HES := Lib.hid hes
  have hkb := Blk.new w 30 (vlCs l (.slice As ms cs) (.slice Ae m ce))
  have hal : Below w.heap.size w (w.alloc (.cells (vlCs l (.slice As ms cs) (.slice Ae m ce)) 30)) := (Below.refl _ _).alloc (Nat.le_refl _) _
  have HKB := Lib.hid hkb
  have HAL := Lib.hid hal
  clear h hes hm hms hkb hal hel
  unfold vlCs at *
  go_enter Tryz.func27, Tryz.ntmps27
  go_wp2
  obtain ⟨wb, hwb⟩ : ∃ wb, wb = w.heap.size := ⟨_, rfl⟩
  refine name_world (fun w1 => Blk w1 wb 30 #[.int .u64 (l.term : Int), .int .i64 l.vote, .int .u64 (l.si : Int), .int .u64 (l.st : Int), .slice As ms cs, .slice Ae m ce] ∧ Below w.heap.size w w1 ∧ wb < w1.heap.size) ⟨by rw [hwb]; exact HKB.out, HAL.out, by rw [hwb]; simp⟩ ?_
  rintro w1 ⟨hb1, hB1, hlt1⟩
  rw [← hwb]
  have HWB := Lib.hid hwb
  clear HKB HAL hwb
  go_loopw [3, 13] (fun vt vi wr => ∃ i t : Nat, i ≤ m ∧ vi = .int .i64 (i : Int) ∧ vt = .int .u64 (t : Int) ∧ Below w1.heap.size w1 wr ∧ Hid (rightE l.term (max l.st 1) l.si l.es = rightE l.term t (l.si + i) (l.es.drop i))) (fun _ vi _ => m - (intOf vi).toNat)
  case atStart => exact ⟨0, max l.st 1, by omega, rfl, by congr 1; omega, Below.refl _ _, Lib.hid rfl⟩
  case round =>
    obtain ⟨i, t, hi, rfl, rfl, hb, HP⟩ := hrel
    have hbr := hb1.below hb hlt1
    have c0 : wr.cell? ⟨wb, 0, none⟩ = some (.int .u64 (l.term : Int)) := hbr.cell 0
    have c2 : wr.cell? ⟨wb, 2, none⟩ = some (.int .u64 (l.si : Int)) := hbr.cell 2
    have hltr : wb < wr.heap.size := hbr.lt
    by_cases hlt : i < m
    · have hil : i < l.es.length := by rw [← HM.out]; exact hlt
      obtain ⟨b5, off5, c5, cs5, hv5, _, ⟨vd, rfl, hvd, ht64, hi64⟩, hcell5⟩ := ((HES.out.below hB1).below hb).at_ hil
      rw [← HM.out] at hv5
      obtain ⟨rfl, rfl⟩ : Ae = some ⟨b5, off5, none⟩ ∧ ce = c5 := by simpa using hv5
      obtain ⟨A6, c6, rfl, hf6⟩ := hvd.form
      obtain ⟨e, he⟩ : ∃ e, e = l.es[i] := ⟨_, rfl⟩
      rw [← he] at hcell5 ht64 hi64 hf6
      have q0 : wr.cell? ⟨b5, off5 + i * 3, none⟩ = some (.int .u64 (e.term : Int)) := hcell5 0 _ rfl
      have q1 : wr.cell? ⟨b5, off5 + i * 3 + 1, none⟩ = some (.int .u64 (e.idx : Int)) := by have := hcell5 1 _ rfl; rwa [Nat.add_assoc]
      have q2 : wr.cell? ⟨b5, off5 + i * 3 + 2, none⟩ = some (.slice A6 e.data.length c6) := by have := hcell5 2 _ rfl; rwa [Nat.add_assoc]
      have hdr : l.es.drop i = e :: l.es.drop (i + 1) := by rw [he]; exact List.drop_eq_getElem_cons hil
      rw [hdr] at HP
      have hw1 : IntKind.u64.wrap ((l.si : Int) + (i : Int)) = ((l.si + i : Nat) : Int) := by rw [IntKind.wrap_u64]; omega
      have hw2 : IntKind.u64.wrap (((l.si + i : Nat) : Int) + 1) = ((l.si + i + 1 : Nat) : Int) := by rw [IntKind.wrap_u64]; omega
      clear hcell5 hv5 hvd hf6 he hdr ht64 hi64
      go_upto_region 5 with fail
      obtain ⟨dl, hdl⟩ : ∃ dl, dl = e.data.length := ⟨_, rfl⟩
      rw [← hdl]
      have HDL := Lib.hid hdl
      obtain ⟨we, hwe⟩ : ∃ we, we = wr.heap.size := ⟨_, rfl⟩
      refine name_world (fun w2 => Blk w2 we 50 #[.int .u64 (e.term : Int), .int .u64 (e.idx : Int), .slice A6 dl c6] ∧ Below wr.heap.size wr w2) ⟨by rw [hwe, hdl]; exact Blk.new _ _ _, (Below.refl _ _).alloc (Nat.le_refl _) _⟩ ?_
      rintro w2 ⟨hbe, hB2⟩
      rw [← hwe]
      have HWE := Lib.hid hwe
      have d0 : w2.cell? ⟨wb, 0, none⟩ = some (.int .u64 (l.term : Int)) := (hB2.cell (p := ⟨wb, 0, none⟩) hltr).trans c0
      have d2 : w2.cell? ⟨wb, 2, none⟩ = some (.int .u64 (l.si : Int)) := (hB2.cell (p := ⟨wb, 2, none⟩) hltr).trans c2
      have e0 : w2.cell? ⟨we, 0, none⟩ = some (.int .u64 (e.term : Int)) := hbe.cell 0
      have e1 : w2.cell? ⟨we, 1, none⟩ = some (.int .u64 (e.idx : Int)) := hbe.cell 1
      have e2 : w2.cell? ⟨we, 2, none⟩ = some (.slice A6 dl c6) := hbe.cell 2
      have hB3 := hb.trans (hB2.mono hb.size)
      clear q0 q1 q2 c0 c2 hbe hbr hdl hwe
      have hR : rightE l.term t (l.si + i) (e :: l.es.drop (i + 1)) = (e.idx == l.si + i + 1 && (decide (t ≤ e.term) && (decide (e.term ≤ l.term) && (decide (dl ≤ 32668) && rightE l.term e.term (l.si + i + 1) (l.es.drop (i + 1)))))) := by rw [HDL.out]; rfl
      have HR := Lib.hid (HP.out.trans hR)
      clear HP hR
      by_cases h1 : e.idx = l.si + i + 1
      · have z1 : ((e.idx : Int) != ((l.si + i + 1 : Nat) : Int)) = false := by rw [h1]; exact bne_self_eq_false _
        have z1' : ((e.idx : Int) != (l.si : Int) + (i : Int) + 1) = false := by rw [bne_eq_false_iff_eq]; omega
        have HH1 := Lib.hid h1
        clear h1
        by_cases h2 : t ≤ e.term
        · have z2 : decide (e.term < t) = false := decide_eq_false (by omega)
          by_cases h3 : e.term ≤ l.term
          · have z3 : decide (l.term < e.term) = false := decide_eq_false (by omega)
            by_cases h4 : dl ≤ 32668
            · have z4 : decide ((dl : Int) > 32668) = false := decide_eq_false (by omega)
              have z5 : decide (32668 < dl) = false := decide_eq_false (by omega)
              have HR2 := Lib.hid (show rightE l.term (max l.st 1) l.si l.es = rightE l.term e.term (l.si + (i + 1)) (l.es.drop (i + 1)) by
                rw [HR.out, HH1.out, decide_eq_true h2, decide_eq_true h3, decide_eq_true h4, ← Nat.add_assoc]
                simp)
              clear HR HH1 h2 h3 h4
              go_wp2
              go_roundw
              case rel => exact ⟨i + 1, e.term, by omega, by go_num, rfl, hB3, HR2⟩
              case measure => simp [intOf]; omega
            · have z4 : decide ((dl : Int) > 32668) = true := decide_eq_true (by omega)
              have z5 : decide (32668 < dl) = true := decide_eq_true (by omega)
              have HR2 := Lib.hid (show rightE l.term (max l.st 1) l.si l.es = false by rw [HR.out, decide_eq_false h4]; simp)
              clear HR HH1 h2 h3 h4
              go_wp2
              go_ret
              exact ⟨by rw [HR2.out]; rfl, hB1.trans (hB3.mono hB1.size)⟩
          · have z3 : decide (l.term < e.term) = true := decide_eq_true (by omega)
            have HR2 := Lib.hid (show rightE l.term (max l.st 1) l.si l.es = false by rw [HR.out, decide_eq_false h3]; simp)
            clear HR HH1 h2 h3
            go_wp2
            go_ret
            exact ⟨by rw [HR2.out]; rfl, hB1.trans (hB3.mono hB1.size)⟩
        · have z2 : decide (e.term < t) = true := decide_eq_true (by omega)
          have HR2 := Lib.hid (show rightE l.term (max l.st 1) l.si l.es = false by rw [HR.out, decide_eq_false h2]; simp)
          clear HR HH1 h2
          go_wp2
          go_ret
          exact ⟨by rw [HR2.out]; rfl, hB1.trans (hB3.mono hB1.size)⟩
      · have z1 : ((e.idx : Int) != ((l.si + i + 1 : Nat) : Int)) = true := by rw [bne_iff_ne]; omega
        have z1' : ((e.idx : Int) != (l.si : Int) + (i : Int) + 1) = true := by rw [bne_iff_ne]; omega
        have HR2 := Lib.hid (show rightE l.term (max l.st 1) l.si l.es = false by
          rw [HR.out, show (e.idx == l.si + i + 1) = false from beq_eq_false_iff_ne.2 h1]
          rfl)
        clear HR h1
        go_wp2
        go_ret
        exact ⟨by rw [HR2.out]; rfl, hB1.trans (hB3.mono hB1.size)⟩
    · obtain rfl : i = m := by omega
      have HR2 := Lib.hid (show rightE l.term (max l.st 1) l.si l.es = true by rw [HP.out, List.drop_of_length_le (by rw [← HM.out]; omega)]; rfl)
      clear HP
      go_wp2
      go_ret
      exact ⟨by rw [HR2.out]; rfl, hB1.trans (hb.mono hB1.size)⟩
set_option maxRecDepth 100000 in
set_option maxHeartbeats 3200000 in
theorem vright_any {ok : Nat → Prop} {w : World} {vsd ves : Value} {l : VLog} (h : VLm ok w vsd ves l) :
    Calls Tryz.prog 11 #[.agg (vlCs l vsd ves)] w fun e w' => e = .returned (.bool (rightV l)) ∧ Below w.heap.size w w' := by
  have hRE := fun hsi => fun (w' : World) (hb : Below w.heap.size w w') => rightE_any (h.below hb) hsi
  obtain ⟨As, cs, rfl, _, hsl⟩ := h.sd.form
  obtain ⟨Ae, ce, rfl, _, _⟩ := h.es.form
  obtain ⟨m, hm⟩ : ∃ m, m = l.es.length := ⟨_, rfl⟩
  obtain ⟨ms, hms⟩ : ∃ ms, ms = l.sd.length := ⟨_, rfl⟩
  rw [← hm, ← hms]
  rw [← hm, ← hms] at hRE
  have hRV : rightV l = (decide (l.st ≤ l.term) && (decide (l.si = 0 ↔ l.st = 0) && (decide (l.si ≤ 4611686018427387904) && (decide (ms ≤ 32668) && (decide (0 ≤ l.vote) && (decide (l.vote ≤ 5) && rightE l.term (max l.st 1) l.si l.es)))))) := by rw [hms]; rfl
  have HRV := Lib.hid hRV
  have HRE := Lib.hid hRE
  have hkb := Blk.new w 30 (vlCs l (.slice As ms cs) (.slice Ae m ce))
  have hal : Below w.heap.size w (w.alloc (.cells (vlCs l (.slice As ms cs) (.slice Ae m ce)) 30)) := (Below.refl _ _).alloc (Nat.le_refl _) _
  have HKB := Lib.hid hkb
  have HAL := Lib.hid hal
  have hvote := h.vote
  clear h hkb hal hRE hRV hm hms hsl
  unfold vlCs at *
  go_enter Tryz.func11, Tryz.ntmps11
  go_upto_region 1 with fail
  obtain ⟨wb, hwb⟩ : ∃ wb, wb = w.heap.size := ⟨_, rfl⟩
  refine name_world (fun w1 => Blk w1 wb 30 #[.int .u64 (l.term : Int), .int .i64 l.vote, .int .u64 (l.si : Int), .int .u64 (l.st : Int), .slice As ms cs, .slice Ae m ce] ∧ Below w.heap.size w w1 ∧ wb < w1.heap.size) ⟨by rw [hwb]; exact HKB.out, HAL.out, by rw [hwb]; simp⟩ ?_
  rintro w1 ⟨hb1, hB1, hlt1⟩
  rw [← hwb]
  have HWB := Lib.hid hwb
  clear HKB HAL hwb
  have c2 : w1.cell? ⟨wb, 2, none⟩ = some (.int .u64 (l.si : Int)) := hb1.cell 2
  have c3 : w1.cell? ⟨wb, 3, none⟩ = some (.int .u64 (l.st : Int)) := hb1.cell 3
  have c4 : w1.cell? ⟨wb, 4, none⟩ = some (.slice As ms cs) := hb1.cell 4
  go_upto_region 2 with fail
  obtain ⟨we, hwe⟩ : ∃ we, we = w1.heap.size := ⟨_, rfl⟩
  refine name_world (fun w2 => Blk w2 we 27 #[.int .u64 (l.si : Int), .int .u64 (l.st : Int), .slice As ms cs] ∧ Below w1.heap.size w1 w2) ⟨by rw [hwe]; exact Blk.new _ _ _, (Below.refl _ _).alloc (Nat.le_refl _) _⟩ ?_
  rintro w2 ⟨hbe, hB2⟩
  rw [← hwe]
  have HWE := Lib.hid hwe
  have hb2 := hb1.below hB2 hlt1
  have d0 : w2.cell? ⟨wb, 0, none⟩ = some (.int .u64 (l.term : Int)) := hb2.cell 0
  have d1 : w2.cell? ⟨wb, 1, none⟩ = some (.int .i64 l.vote) := hb2.cell 1
  have d2 : w2.cell? ⟨wb, 2, none⟩ = some (.int .u64 (l.si : Int)) := hb2.cell 2
  have d3 : w2.cell? ⟨wb, 3, none⟩ = some (.int .u64 (l.st : Int)) := hb2.cell 3
  have d4 : w2.cell? ⟨wb, 4, none⟩ = some (.slice As ms cs) := hb2.cell 4
  have d5 : w2.cell? ⟨wb, 5, none⟩ = some (.slice Ae m ce) := hb2.cell 5
  have e0 : w2.cell? ⟨we, 0, none⟩ = some (.int .u64 (l.si : Int)) := hbe.cell 0
  have e1 : w2.cell? ⟨we, 1, none⟩ = some (.int .u64 (l.st : Int)) := hbe.cell 1
  have e2 : w2.cell? ⟨we, 2, none⟩ = some (.slice As ms cs) := hbe.cell 2
  have hBz := hB1.trans (hB2.mono hB1.size)
  clear c2 c3 c4 hb1 hb2 hbe hwe hlt1
  obtain ⟨b1, h1⟩ : ∃ b : Bool, decide (l.term < l.st) = b := ⟨_, rfl⟩
  obtain ⟨bx, hx⟩ : ∃ b : Bool, ((l.si : Int) == 0) = b := ⟨_, rfl⟩
  obtain ⟨bz, hz⟩ : ∃ b : Bool, ((l.st : Int) == 0) = b := ⟨_, rfl⟩
  obtain ⟨b3, h3⟩ : ∃ b : Bool, decide (4611686018427387904 < l.si) = b := ⟨_, rfl⟩
  obtain ⟨b4, h4⟩ : ∃ b : Bool, decide (32668 < ms) = b := ⟨_, rfl⟩
  obtain ⟨b5, h5⟩ : ∃ b : Bool, decide (0 ≤ l.vote) = b := ⟨_, rfl⟩
  obtain ⟨b6, h6⟩ : ∃ b : Bool, decide (l.vote ≤ 5) = b := ⟨_, rfl⟩
  obtain ⟨hb, hhb⟩ : ∃ hb : Bool, hb = (b1 || ((bx != bz) || (b3 || b4))) := ⟨_, rfl⟩
  have hRV2 : rightV l = (!hb && (b5 && (b6 && rightE l.term (max l.st 1) l.si l.es))) := by
    have e1 : decide (l.st ≤ l.term) = !b1 := by rw [← h1, ← decide_not]; congr 1; simp
    have e2 : decide (l.si = 0 ↔ l.st = 0) = !(bx != bz) := by
      have a1 : ((l.si : Int) == 0) = decide (l.si = 0) := by rw [Bool.eq_iff_iff]; simp
      have a2 : ((l.st : Int) == 0) = decide (l.st = 0) := by rw [Bool.eq_iff_iff]; simp
      rw [← hx, ← hz, a1, a2]
      by_cases p : l.si = 0 <;> by_cases q : l.st = 0 <;> simp [p, q]
    have e3 : decide (l.si ≤ 4611686018427387904) = !b3 := by rw [← h3, ← decide_not]; congr 1; simp
    have e4 : decide (ms ≤ 32668) = !b4 := by rw [← h4, ← decide_not]; congr 1; simp
    rw [HRV.out, hhb, e1, e2, e3, e4, h5, h6]
    cases b1 <;> cases bx <;> cases bz <;> cases b3 <;> cases b4 <;> simp
  have h3i : b3 = false → l.si ≤ 4611686018427387904 := fun h => by rw [h, decide_eq_false_iff_not] at h3; omega
  have h3h : hb = false → b3 = false := fun h => by rw [hhb] at h; revert h; cases b1 <;> cases bx <;> cases bz <;> cases b3 <;> simp
  have HB := Lib.hid hhb
  have HR2 := Lib.hid hRV2
  have H3 := Lib.hid (fun h => h3i (h3h h))
  have z3 : decide ((l.si : Int) > 4611686018427387904) = b3 := by rw [← h3]; congr 1; rw [eq_iff_iff]; omega
  have z4 : decide ((ms : Int) > 32668) = b4 := by rw [← h4]; congr 1; rw [eq_iff_iff]; omega
  have z1 : decide ((l.st : Int) > (l.term : Int)) = b1 := by rw [← h1]; congr 1; rw [eq_iff_iff]; omega
  have z5 : decide (l.vote ≥ 0) = b5 := h5
  clear hhb hRV2 h3i h3h HRV
  go_cut [31] (fun v wx => v = .bool hb ∧ wx = w2)
  case first =>
    cases b1
    rotate_left
    · (go_wp2; go_meet; exact ⟨by rw [HB.out]; rfl, rfl⟩)
    cases bx <;> cases bz
    rotate_left
    · (go_wp2; go_meet; exact ⟨by rw [HB.out]; rfl, rfl⟩)
    · (go_wp2; go_meet; exact ⟨by rw [HB.out]; rfl, rfl⟩)
    all_goals cases b3
    all_goals (cases b4 <;> (go_wp2; go_meet; exact ⟨by rw [HB.out]; rfl, rfl⟩))
  obtain ⟨rfl, hwx⟩ := hcut
  rw [hwx]
  clear hwx h1 hx hz h3 h4 z3 z4 z1
  cases hb
  rotate_left
  · have HR3 := Lib.hid (show rightV l = false by rw [HR2.out]; rfl)
    go_wp2
    go_ret
    exact ⟨by rw [HR3.out]; rfl, hBz⟩
  cases b5
  · have HR3 := Lib.hid (show rightV l = false by rw [HR2.out]; rfl)
    go_wp2
    go_ret
    exact ⟨by rw [HR3.out]; rfl, hBz⟩
  cases b6
  · have HR3 := Lib.hid (show rightV l = false by rw [HR2.out]; rfl)
    go_wp2
    go_ret
    exact ⟨by rw [HR3.out]; rfl, hBz⟩
  have HR3 := Lib.hid (show rightV l = rightE l.term (max l.st 1) l.si l.es by rw [HR2.out]; simp)
  have HC := Lib.hid (HRE.out (H3.out rfl) w2 hBz)
  go_wp2_with fail
  refine HC.out.mono ?_
  rintro e w3 ⟨rfl, hB3⟩
  go_wp2
  go_ret
  exact ⟨by rw [HR3.out]; rfl, hBz.trans (hB3.mono hBz.size)⟩
end Go.Proofs.YtnlhjhpikjmoaaaGreatDoor
namespace Go.Proofs.YtnlhjhpikjmoaaaGreatDoor
open Go.RowKit
set_option maxRecDepth 100000 in
set_option maxHeartbeats 6400000 in
theorem vrefRight_any {ok : Nat → Prop} {w : World} {vsd ves : Value} {l : VLog} (h : VLm ok w vsd ves l) :
    Calls Tryz.prog 12 #[.agg (vlCs l vsd ves)] w fun e w' => e = .returned (.bool (rightV l)) ∧ Below w.heap.size w w' := by
  obtain ⟨As, cs, rfl, _, hsl⟩ := h.sd.form
  obtain ⟨Ae, ce, rfl, hce, hel⟩ := h.es.form
  obtain ⟨m, hm⟩ : ∃ m, m = l.es.length := ⟨_, rfl⟩
  obtain ⟨ms, hms⟩ : ∃ ms, ms = l.sd.length := ⟨_, rfl⟩
  have hes := h.es
  rw [← hm] at hes hce hel
  have hm40 : m * 40 ≤ 140737488351232 := hel
  rw [← hm, ← hms]
  have hRV : rightV l = (decide (l.st ≤ l.term) && (decide (l.si = 0 ↔ l.st = 0) && (decide (l.si ≤ 4611686018427387904) && (decide (ms ≤ 32668) && (decide (0 ≤ l.vote) && (decide (l.vote ≤ 5) && rightE l.term (max l.st 1) l.si l.es)))))) := by rw [hms]; rfl
  have HRV := Lib.hid hRV
  have HM := Lib.hid hm
  have HES := Lib.hid hes
  have hkb := Blk.new w 30 (vlCs l (.slice As ms cs) (.slice Ae m ce))
  have hal : Below w.heap.size w (w.alloc (.cells (vlCs l (.slice As ms cs) (.slice Ae m ce)) 30)) := (Below.refl _ _).alloc (Nat.le_refl _) _
  have HKB := Lib.hid hkb
  have HAL := Lib.hid hal
  clear h hkb hal hRV hm hms hsl hes hel
  unfold vlCs at *
  go_enter Tryz.func12, Tryz.ntmps12
  go_upto_region 1 with fail
  obtain ⟨wb, hwb⟩ : ∃ wb, wb = w.heap.size := ⟨_, rfl⟩
  refine name_world (fun w1 => Blk w1 wb 30 #[.int .u64 (l.term : Int), .int .i64 l.vote, .int .u64 (l.si : Int), .int .u64 (l.st : Int), .slice As ms cs, .slice Ae m ce] ∧ Below w.heap.size w w1 ∧ wb < w1.heap.size) ⟨by rw [hwb]; exact HKB.out, HAL.out, by rw [hwb]; simp⟩ ?_
  rintro w1 ⟨hb1, hB1, hlt1⟩
  rw [← hwb]
  have HWB := Lib.hid hwb
  clear HKB HAL hwb
  have c0 : w1.cell? ⟨wb, 0, none⟩ = some (.int .u64 (l.term : Int)) := hb1.cell 0
  have c1 : w1.cell? ⟨wb, 1, none⟩ = some (.int .i64 l.vote) := hb1.cell 1
  have c2 : w1.cell? ⟨wb, 2, none⟩ = some (.int .u64 (l.si : Int)) := hb1.cell 2
  have c3 : w1.cell? ⟨wb, 3, none⟩ = some (.int .u64 (l.st : Int)) := hb1.cell 3
  have c4 : w1.cell? ⟨wb, 4, none⟩ = some (.slice As ms cs) := hb1.cell 4
  obtain ⟨b1, h1⟩ : ∃ b : Bool, decide (l.term < l.st) = b := ⟨_, rfl⟩
  obtain ⟨bx, hx⟩ : ∃ b : Bool, ((l.si : Int) == 0) = b := ⟨_, rfl⟩
  obtain ⟨bz, hz⟩ : ∃ b : Bool, ((l.st : Int) == 0) = b := ⟨_, rfl⟩
  obtain ⟨b3, h3⟩ : ∃ b : Bool, decide (4611686018427387904 < l.si) = b := ⟨_, rfl⟩
  obtain ⟨b4, h4⟩ : ∃ b : Bool, decide (32668 < ms) = b := ⟨_, rfl⟩
  obtain ⟨b5, h5⟩ : ∃ b : Bool, decide (l.vote < 0) = b := ⟨_, rfl⟩
  obtain ⟨b6, h6⟩ : ∃ b : Bool, decide (5 < l.vote) = b := ⟨_, rfl⟩
  obtain ⟨hb, hhb⟩ : ∃ hb : Bool, hb = (b5 || (b6 || (b3 || (b1 || ((bx != bz) || b4))))) := ⟨_, rfl⟩
  have hRV2 : rightV l = (!hb && rightE l.term (max l.st 1) l.si l.es) := by
    have e1 : decide (l.st ≤ l.term) = !b1 := by rw [← h1, ← decide_not]; congr 1; simp
    have e2 : decide (l.si = 0 ↔ l.st = 0) = !(bx != bz) := by
      have a1 : ((l.si : Int) == 0) = decide (l.si = 0) := by rw [Bool.eq_iff_iff]; simp
      have a2 : ((l.st : Int) == 0) = decide (l.st = 0) := by rw [Bool.eq_iff_iff]; simp
      rw [← hx, ← hz, a1, a2]
      by_cases p : l.si = 0 <;> by_cases q : l.st = 0 <;> simp [p, q]
    have e3 : decide (l.si ≤ 4611686018427387904) = !b3 := by rw [← h3, ← decide_not]; congr 1; simp
    have e4 : decide (ms ≤ 32668) = !b4 := by rw [← h4, ← decide_not]; congr 1; simp
    have e5 : decide (0 ≤ l.vote) = !b5 := by rw [← h5, ← decide_not]; congr 1; simp
    have e6 : decide (l.vote ≤ 5) = !b6 := by rw [← h6, ← decide_not]; congr 1; simp
    rw [HRV.out, hhb, e1, e2, e3, e4, e5, e6]
    cases b1 <;> cases bx <;> cases bz <;> cases b3 <;> cases b4 <;> cases b5 <;> cases b6 <;> simp
  have h3i : b3 = false → l.si ≤ 4611686018427387904 := fun h => by rw [h, decide_eq_false_iff_not] at h3; omega
  have h3h : hb = false → b3 = false := fun h => by rw [hhb] at h; revert h; cases b5 <;> cases b6 <;> cases b3 <;> simp
  have HB := Lib.hid hhb
  have HR2 := Lib.hid hRV2
  have H3 := Lib.hid (fun h => h3i (h3h h))
  have z3 : decide ((l.si : Int) > 4611686018427387904) = b3 := by rw [← h3]; congr 1; rw [eq_iff_iff]; omega
  have z4 : decide ((ms : Int) > 32668) = b4 := by rw [← h4]; congr 1; rw [eq_iff_iff]; omega
  have z1 : decide ((l.st : Int) > (l.term : Int)) = b1 := by rw [← h1]; congr 1; rw [eq_iff_iff]; omega
  have z6 : decide (l.vote > 5) = b6 := h6
  clear hhb hRV2 h3i h3h HRV
  go_cut [48] (fun v wx => v = .bool hb ∧ wx = w1)
  case first =>
    cases b5
    rotate_left
    · (go_wp2; go_meet; exact ⟨by rw [HB.out]; rfl, rfl⟩)
    cases b6
    rotate_left
    · (go_wp2; go_meet; exact ⟨by rw [HB.out]; rfl, rfl⟩)
    cases b3
    rotate_left
    · (go_wp2; go_meet; exact ⟨by rw [HB.out]; rfl, rfl⟩)
    cases b1
    rotate_left
    · (go_wp2; go_meet; exact ⟨by rw [HB.out]; rfl, rfl⟩)
    cases bx <;> cases bz
    rotate_left
    · (go_wp2; go_meet; exact ⟨by rw [HB.out]; rfl, rfl⟩)
    · (go_wp2; go_meet; exact ⟨by rw [HB.out]; rfl, rfl⟩)
    all_goals (cases b4 <;> (go_wp2; go_meet; exact ⟨by rw [HB.out]; rfl, rfl⟩))
  obtain ⟨rfl, hwx⟩ := hcut
  rw [hwx]
  clear hwx h1 hx hz h3 h4 h5 h6 z3 z4 z1 z6
  cases hb
  rotate_left
  · have HR3 := Lib.hid (show rightV l = false by rw [HR2.out]; rfl)
    go_wp2
    go_ret
    exact ⟨by rw [HR3.out]; rfl, hB1⟩
  have HR3 := Lib.hid (show rightV l = rightE l.term (max l.st 1) l.si l.es by rw [HR2.out]; simp)
  have hsi : l.si ≤ 4611686018427387904 := H3.out rfl
  have HB1 := Lib.hid hb1
  clear hb1
  go_upto_region 5 with fail
  clear c0 c1 c2 c3 c4
  go_loopw [3, 4] (fun vt vi wr => ∃ i t : Nat, i ≤ m ∧ vi = .int .i64 (i : Int) ∧ vt = .int .u64 (t : Int) ∧ Below w1.heap.size w1 wr ∧ Hid (rightE l.term (max l.st 1) l.si l.es = rightE l.term (max t 1) (l.si + i) (l.es.drop i))) (fun _ vi _ => m - (intOf vi).toNat)
  case atStart => exact ⟨0, l.st, by omega, rfl, rfl, Below.refl _ _, Lib.hid rfl⟩
  case round =>
    obtain ⟨i, t, hi, rfl, rfl, hb, HP⟩ := hrel
    have hbr := HB1.out.below hb hlt1
    have c0 : wr.cell? ⟨wb, 0, none⟩ = some (.int .u64 (l.term : Int)) := hbr.cell 0
    have c2 : wr.cell? ⟨wb, 2, none⟩ = some (.int .u64 (l.si : Int)) := hbr.cell 2
    have c5 : wr.cell? ⟨wb, 5, none⟩ = some (.slice Ae m ce) := hbr.cell 5
    have hltr : wb < wr.heap.size := hbr.lt
    by_cases hlt : i < m
    · have hil : i < l.es.length := by rw [← HM.out]; exact hlt
      obtain ⟨b5, off5, c5', cs5, hv5, _, ⟨vd, rfl, hvd, ht64, hi64⟩, hcell5⟩ := ((HES.out.below hB1).below hb).at_ hil
      rw [← HM.out] at hv5
      obtain ⟨rfl, rfl⟩ : Ae = some ⟨b5, off5, none⟩ ∧ ce = c5' := by simpa using hv5
      obtain ⟨A6, c6, rfl, hf6⟩ := hvd.form
      obtain ⟨e, he⟩ : ∃ e, e = l.es[i] := ⟨_, rfl⟩
      rw [← he] at hcell5 ht64 hi64 hf6
      have q0 : wr.cell? ⟨b5, off5 + i * 3, none⟩ = some (.int .u64 (e.term : Int)) := hcell5 0 _ rfl
      have q1 : wr.cell? ⟨b5, off5 + i * 3 + 1, none⟩ = some (.int .u64 (e.idx : Int)) := by have := hcell5 1 _ rfl; rwa [Nat.add_assoc]
      have q2 : wr.cell? ⟨b5, off5 + i * 3 + 2, none⟩ = some (.slice A6 e.data.length c6) := by have := hcell5 2 _ rfl; rwa [Nat.add_assoc]
      have hdr : l.es.drop i = e :: l.es.drop (i + 1) := by rw [he]; exact List.drop_eq_getElem_cons hil
      rw [hdr] at HP
      clear hcell5 hv5 hvd hf6 he hdr ht64 hi64
      go_upto_region 8 with fail
      obtain ⟨dl, hdl⟩ : ∃ dl, dl = e.data.length := ⟨_, rfl⟩
      rw [← hdl]
      have HDL := Lib.hid hdl
      obtain ⟨we, hwe⟩ : ∃ we, we = wr.heap.size := ⟨_, rfl⟩
      refine name_world (fun w2 => Blk w2 we 50 #[.int .u64 (e.term : Int), .int .u64 (e.idx : Int), .slice A6 dl c6] ∧ Below wr.heap.size wr w2) ⟨by rw [hwe, hdl]; exact Blk.new _ _ _, (Below.refl _ _).alloc (Nat.le_refl _) _⟩ ?_
      rintro w2 ⟨hbe, hB2⟩
      rw [← hwe]
      have HWE := Lib.hid hwe
      have d0 : w2.cell? ⟨wb, 0, none⟩ = some (.int .u64 (l.term : Int)) := (hB2.cell (p := ⟨wb, 0, none⟩) hltr).trans c0
      have d2 : w2.cell? ⟨wb, 2, none⟩ = some (.int .u64 (l.si : Int)) := (hB2.cell (p := ⟨wb, 2, none⟩) hltr).trans c2
      have e0 : w2.cell? ⟨we, 0, none⟩ = some (.int .u64 (e.term : Int)) := hbe.cell 0
      have e1 : w2.cell? ⟨we, 1, none⟩ = some (.int .u64 (e.idx : Int)) := hbe.cell 1
      have e2 : w2.cell? ⟨we, 2, none⟩ = some (.slice A6 dl c6) := hbe.cell 2
      have hB3 := hb.trans (hB2.mono hb.size)
      clear q0 q1 q2 c0 c2 c5 hbe hbr hdl hwe
      have hR : rightE l.term (max t 1) (l.si + i) (e :: l.es.drop (i + 1)) = (e.idx == l.si + i + 1 && (decide (max t 1 ≤ e.term) && (decide (e.term ≤ l.term) && (decide (dl ≤ 32668) && rightE l.term e.term (l.si + i + 1) (l.es.drop (i + 1)))))) := by rw [HDL.out]; rfl
      have HR := Lib.hid (HP.out.trans hR)
      clear HP hR
      by_cases h1 : e.idx = l.si + i + 1
      · have z1 : ((e.idx : Int) != (l.si : Int) + (i : Int) + 1) = false := by rw [bne_eq_false_iff_eq]; omega
        have HH1 := Lib.hid h1
        clear h1
        by_cases h2 : t ≤ e.term
        · have z2 : decide (e.term < t) = false := decide_eq_false (by omega)
          by_cases h0 : e.term = 0
          · have z0 : ((e.term : Int) == 0) = true := by rw [beq_iff_eq]; omega
            have z0' : decide (e.term = 0) = true := decide_eq_true h0
            have HR2 := Lib.hid (show rightE l.term (max l.st 1) l.si l.es = false by rw [HR.out, decide_eq_false (show ¬ max t 1 ≤ e.term by omega)]; simp)
            clear HR HH1 h2 h0
            go_wp2
            go_ret
            exact ⟨by rw [HR3.out, HR2.out]; rfl, hB1.trans (hB3.mono hB1.size)⟩
          · have z0 : ((e.term : Int) == 0) = false := by rw [beq_eq_false_iff_ne]; omega
            have z0' : decide (e.term = 0) = false := decide_eq_false h0
            by_cases h3 : e.term ≤ l.term
            · have z3 : decide (l.term < e.term) = false := decide_eq_false (by omega)
              by_cases h4 : dl ≤ 32668
              · have z4 : decide ((dl : Int) > 32668) = false := decide_eq_false (by omega)
                have z5 : decide (32668 < dl) = false := decide_eq_false (by omega)
                have HR2 := Lib.hid (show rightE l.term (max l.st 1) l.si l.es = rightE l.term (max e.term 1) (l.si + (i + 1)) (l.es.drop (i + 1)) by
                  rw [HR.out, HH1.out, decide_eq_true (show max t 1 ≤ e.term by omega), decide_eq_true h3, decide_eq_true h4, ← Nat.add_assoc, show max e.term 1 = e.term by omega]
                  simp)
                clear HR HH1 h2 h3 h4 h0
                go_wp2
                go_roundw
                case rel => exact ⟨i + 1, e.term, by omega, by go_num, rfl, hB3, HR2⟩
                case measure => simp [intOf]; omega
              · have z4 : decide ((dl : Int) > 32668) = true := decide_eq_true (by omega)
                have z5 : decide (32668 < dl) = true := decide_eq_true (by omega)
                have HR2 := Lib.hid (show rightE l.term (max l.st 1) l.si l.es = false by rw [HR.out, decide_eq_false h4]; simp)
                clear HR HH1 h2 h3 h4 h0
                go_wp2
                go_ret
                exact ⟨by rw [HR3.out, HR2.out]; rfl, hB1.trans (hB3.mono hB1.size)⟩
            · have z3 : decide (l.term < e.term) = true := decide_eq_true (by omega)
              have HR2 := Lib.hid (show rightE l.term (max l.st 1) l.si l.es = false by rw [HR.out, decide_eq_false h3]; simp)
              clear HR HH1 h2 h3 h0
              go_wp2
              go_ret
              exact ⟨by rw [HR3.out, HR2.out]; rfl, hB1.trans (hB3.mono hB1.size)⟩
        · have z2 : decide (e.term < t) = true := decide_eq_true (by omega)
          have HR2 := Lib.hid (show rightE l.term (max l.st 1) l.si l.es = false by rw [HR.out, decide_eq_false (show ¬ max t 1 ≤ e.term by omega)]; simp)
          clear HR HH1 h2
          go_wp2
          go_ret
          exact ⟨by rw [HR3.out, HR2.out]; rfl, hB1.trans (hB3.mono hB1.size)⟩
      · have z1 : ((e.idx : Int) != (l.si : Int) + (i : Int) + 1) = true := by rw [bne_iff_ne]; omega
        have HR2 := Lib.hid (show rightE l.term (max l.st 1) l.si l.es = false by
          rw [HR.out, show (e.idx == l.si + i + 1) = false from beq_eq_false_iff_ne.2 h1]
          rfl)
        clear HR h1
        go_wp2
        go_ret
        exact ⟨by rw [HR3.out, HR2.out]; rfl, hB1.trans (hB3.mono hB1.size)⟩
    · obtain rfl : i = m := by omega
      have HR2 := Lib.hid (show rightE l.term (max l.st 1) l.si l.es = true by rw [HP.out, List.drop_of_length_le (by rw [← HM.out]; omega)]; rfl)
      clear HP
      go_wp2
      go_ret
      exact ⟨by rw [HR3.out, HR2.out]; rfl, hB1.trans (hb.mono hB1.size)⟩
end Go.Proofs.YtnlhjhpikjmoaaaGreatDoor
namespace Go.Proofs.YtnlhjhpikjmoaaaGreatDoor
open Go.RowKit
def tearN (keep : List Int) (i : Nat) : Nat := if h : i < keep.length then (min (max keep[i] 0) 64).toNat else 0
theorem tearN_le (keep : List Int) (i : Nat) : tearN keep i ≤ 64 := by
  unfold tearN
  split
  · omega
  · omega
def tearI (keep : List Int) (wait : List (Nat × List UInt8)) (k : List (List UInt8)) : Nat → List (List UInt8)
  | 0 => k
  | i + 1 => (tearI keep wait k i).set (wait.getD i (0, [])).1 (torn (wait.getD i (0, [])).2 ((tearI keep wait k i).getD (wait.getD i (0, [])).1 []) (tearN keep i))
def DskD.crash (d : DskD) (keep : List Int) : DskD := { d with kept := tearI keep d.wait d.kept d.wait.length, wait := [], down := true }
theorem tearI_len (keep : List Int) (wait : List (Nat × List UInt8)) (k : List (List UInt8)) : ∀ i, (tearI keep wait k i).length = k.length
  | 0 => rfl
  | i + 1 => by rw [tearI, List.length_set, tearI_len keep wait k i]
theorem torn_len {s o : List UInt8} (hs : s.length = 64) (ho : o.length = 64) {k : Nat} (hk : k ≤ 64) : (torn s o k).length = 64 := by
  unfold torn
  rw [List.length_append, List.length_take, List.length_drop]
  omega
theorem tearI_64 {keep : List Int} {wait : List (Nat × List UInt8)} {k : List (List UInt8)} (hk : ∀ s ∈ k, s.length = 64) (hw : ∀ p ∈ wait, p.1 < k.length ∧ p.2.length = 64) : ∀ i, i ≤ wait.length → ∀ s ∈ tearI keep wait k i, s.length = 64
  | 0, _ => hk
  | i + 1, hi => fun s hs => by
    have ih := tearI_64 (keep := keep) hk hw i (by omega)
    have hg : wait.getD i (0, []) = wait[i] := by rw [List.getD_eq_getElem?_getD, List.getElem?_eq_getElem (by omega)]; rfl
    have hp := hw _ (List.getElem_mem (l := wait) (n := i) (by omega))
    rw [tearI, hg] at hs
    rcases List.mem_or_eq_of_mem_set hs with h | rfl
    · exact ih s h
    · refine torn_len hp.2 ?_ (tearN_le _ _)
      rw [List.getD_eq_getElem?_getD, List.getElem?_eq_getElem (by rw [tearI_len]; exact hp.1)]
      exact ih _ (List.getElem_mem _)
theorem gives_copy {P : Program} {o : Oper} {a : Act} {w : World} {dT sT elem ty T : TypeId} {x y : Operand} {g off dn dc so sb sn sc : Nat} {cur : Array Value} {cs : List Value} {Φ : Value → World → Prop} (ho : o.op = .call { callee := .builtin .copy, args := #[x, y], argTypes := #[dT, sT] }) (hty : o.type = ty)
    (hx : a.eval x = .slice (some ⟨g, off, none⟩) dn dc) (hy : a.eval y = .slice (some ⟨sb, so, none⟩) sn sc) (hu : P.underlying dT = some (.slice elem)) (hs : (P.info? elem).map (·.size) = some 1) (hg : Blk w g T cur) (hn : cs.length = Nat.min sn dn)
    (hsrc : ∀ j v, cs[j]? = some v → w.cell? ⟨sb, so + j, none⟩ = some v) (hfit : off + cs.length ≤ cur.size) (h1 : ∀ v ∈ cs, v.oneCell' = true)
    (h : Φ (goInt cs.length) (w.setRow g (cur.toList.take off ++ cs ++ cur.toList.drop (off + cs.length)).toArray)) : Gives P o a w Φ := by
  have hr := run_copy_row (P := P) w dT sT ty elem g off dn dc ⟨sb, so, none⟩ sn sc cur T cs hu hs hg hn (fun j v hv => by rw [Addr.add_lit]; exact hsrc j v hv) hfit h1
  unfold Gives execOp
  have hm : (#[x, y].map a.eval) = #[.slice (some ⟨g, off, none⟩) dn dc, .slice (some ⟨sb, so, none⟩) sn sc] := by simp only [List.map_toArray, List.map_cons, List.map_nil, hx, hy]
  simp only [ho, Sem.run_bind, resolve, Sem.run_pure, Result.andThen_ok, invoke, builtin, hm, hty, hr, giv]
  exact h
theorem slice_arr_h (b off m : Nat) (hm : m ≤ 64) (w : World) : (Instr.sliceAt 93 (.pointer (some ⟨b, off, none⟩)) none (some (.int .i64 (m : Int))) none).run Tryz.prog w = .ok (.slice (some ⟨b, off, none⟩) m 64) w := by
  have hl : Tryz.prog.arrayLen 93 = 64 := by kernel_rfl
  have hs : (Tryz.prog.info? (Tryz.prog.elem 93)).map (·.size) = some 1 := by kernel_rfl
  rw [Go.run_sliceAt_array_h w _ _ (by kernel_rfl) .i64 (m : Int) (by omega) (by rw [hl]; omega), hl]
  cases hq : Tryz.prog.info? (Tryz.prog.elem 93) with
  | none => rw [hq] at hs; cases hs
  | some i => simp [sizeOf, typeInfo, hq, slicedAt, Addr.add]
theorem Kp.setRow {ok : Nat → Prop} {w : World} {g : Nat} (cs : Array Value) (hg : ¬ ok g) : Kp ok w (w.setRow g cs) :=
  ⟨rfl, rfl, rfl, by simp [World.setRow], fun k hk ho => setRow_other w g k cs fun e => hg (e ▸ ho)⟩
theorem sec_copy {w : World} {kb : Nat} {T : TypeId} {k : List (List UInt8)} (h : Blk w kb T (secCells k).toArray) (hk : ∀ s ∈ k, s.length = 64) {i : Nat} (hi : i < k.length) {s : List UInt8} (hs : s.length = 64) {n : Nat} (hn : n ≤ 64) :
    Blk (w.setRow kb ((secCells k).toArray.toList.take (i * 64) ++ bs (s.take n) ++ (secCells k).toArray.toList.drop (i * 64 + (bs (s.take n)).length)).toArray) kb T (secCells (k.set i (torn s (k.getD i []) n))).toArray := by
  have h2 := setRow_heap w kb (secCells k).toArray ((secCells k).toArray.toList.take (i * 64) ++ bs (s.take n) ++ (secCells k).toArray.toList.drop (i * 64 + (bs (s.take n)).length)).toArray T (0, 0) h
  have hg : k.getD i [] = k[i] := by rw [List.getD_eq_getElem?_getD, List.getElem?_eq_getElem hi]; rfl
  have hki := hk _ (List.getElem_mem hi)
  have e0 : secCells k = secCells (k.take i) ++ bs k[i] ++ secCells (k.drop (i + 1)) := by
    have := secCells_split k i hi k[i]
    rwa [List.set_getElem_self] at this
  have hl : (secCells (k.take i)).length = i * 64 := by rw [secCells_len _ fun s hs => hk s (List.mem_of_mem_take hs), List.length_take, Nat.min_eq_left (by omega)]
  have e : (secCells k).toArray.toList.take (i * 64) ++ bs (s.take n) ++ (secCells k).toArray.toList.drop (i * 64 + (bs (s.take n)).length) = secCells (k.set i (torn s (k.getD i []) n)) := by
    rw [secCells_split k i hi, hg]
    show (secCells k).take (i * 64) ++ bs (s.take n) ++ (secCells k).drop (i * 64 + (bs (s.take n)).length) = _
    have hbt : (bs (s.take n)).length = n := by rw [bs_len, List.length_take]; omega
    have htb : bs (torn s k[i] n) = bs (s.take n) ++ (bs k[i]).drop n := by
      unfold torn bs
      rw [List.map_append, List.map_drop]
    rw [hbt, htb, e0, List.append_assoc (secCells (k.take i)), List.take_append_of_le_length (by omega), List.take_of_length_le (by omega), List.drop_append, List.drop_of_length_le (by omega), hl, Nat.add_sub_cancel_left, List.nil_append, List.drop_append_of_le_length (by rw [bs_len, hki]; exact hn)]
    simp only [List.append_assoc]
  rw [e] at h2
  rw [← e] at h2 ⊢
  exact h2
set_option maxRecDepth 100000 in
set_option maxHeartbeats 6400000 in
theorem dCrash_any {ft okk : Nat → Prop} {g : Nat} {d : DskD} {w : World} (h : DiskR ft w g d) (v : Value) (keep : List Int) (hkp : RSl rInt okk w v keep) (hof : ∀ b, okk b → ¬ ft b) :
    Calls Tryz.prog 20 #[.pointer (some ⟨g, 0, none⟩), v] w fun e w' => e = .returned (.int .i64 0) ∧ DiskR ft w' g (d.crash keep) ∧ Kp (fun b => ¬ ft b) w w' := by
  have hft := h.ft
  obtain ⟨kb, vw, h1, h2, h3, h4, h5, h6, h7, h8, h9, h10, h11, h12, h13, h14⟩ := h
  obtain ⟨Ak, ck, rfl, hck, hwk⟩ := hkp.form
  rw [show rInt.wt = 8 from rfl] at hwk
  obtain ⟨nk, hnk⟩ : ∃ n, n = keep.length := ⟨_, rfl⟩
  rw [← hnk] at hck hwk hkp
  rw [← hnk]
  have HNK := Lib.hid hnk
  clear hnk
  obtain ⟨c0, c1, c2, c3⟩ := dk_cells h1
  have hwl : RSl rWt (fun b => some b = vw.ownBlock) w vw d.wait := h3.rslP (show d.wait.length * 72 ≤ _ by omega) (fun b _ e => e) (fun _ h => h.elim)
  obtain ⟨A5, c5, rfl, _, _⟩ := hwl.form
  have H10k := Lib.hid h10.kept
  have H10w := Lib.hid h10.wait
  have fg := fun i => h1.frozen i
  have kg1 : Blk (w.setCell ⟨g, 2, none⟩ (.bool true)) g 91 #[.slice (some ⟨kb, 0, none⟩) d.kept.length d.kept.length, .slice A5 d.wait.length c5, .bool true, .int .i64 (d.armed : Int)] := h1.set_ 2 (.bool true)
  have hk1 : Kp (fun b => b ≠ g) w (w.setCell ⟨g, 2, none⟩ (.bool true)) := (Kp.refl _ _).setCell (fun _ h => h rfl) _
  have ks1 := h2.far (p := ⟨g, 2, none⟩) h4 (.bool true)
  have HK1 := Lib.hid kg1
  have HKK := Lib.hid hk1
  have HKS := Lib.hid ks1
  clear h3 kg1 hk1 ks1
  go_enter Tryz.func20, Tryz.ntmps20
  go_upto_region 4 with fail
  refine name_world (fun w2 => Blk w2 g 91 #[.slice (some ⟨kb, 0, none⟩) d.kept.length d.kept.length, .slice A5 d.wait.length c5, .bool true, .int .i64 (d.armed : Int)] ∧ Kp (fun b => b ≠ g) w w2 ∧ Blk w2 kb 93 (secCells d.kept).toArray) ⟨HK1.out, HKK.out, HKS.out⟩ ?_
  rintro w2 ⟨hg2, hk2, ks2⟩
  obtain ⟨e0, e1, e2, e3⟩ := dk_cells hg2
  have hwl2 : RSl rWt (fun b => some b = (Value.slice A5 d.wait.length c5).ownBlock) w2 (.slice A5 d.wait.length c5) d.wait := hwl.kp (hk2.mono fun b hb e => h5 (by rw [← hb, e]))
  have hkeep2 : RSl rInt okk w2 (.slice Ak nk ck) keep := hkp.kp (hk2.mono fun b hb e => hof b hb (e ▸ h7))
  clear HK1 HKK HKS fg c0 c1 c2 c3 hwl hkp
  go_upto_region 5 with fail
  go_loopw [18] (fun j wr => ∃ i : Nat, i ≤ d.wait.length ∧ j = .int .i64 (i : Int) ∧ Kp (fun b => b ≠ kb) w2 wr ∧ Blk wr kb 93 (secCells (tearI keep d.wait d.kept i)).toArray) (fun j _ => d.wait.length - (intOf j).toNat)
  case atStart => exact ⟨0, by omega, rfl, Kp.refl _ _, ks2⟩
  case round =>
    obtain ⟨i, hi, rfl, hk, ks⟩ := hrel
    have kg := hg2.kp hk (Ne.symm h4)
    obtain ⟨r0, r1, r2, r3⟩ := dk_cells kg
    by_cases hlt : i < d.wait.length
    · have u0 : decide ((i : Int) < (d.wait.length : Int)) = true := decide_eq_true (by omega)
      have hKlen : (tearI keep d.wait d.kept i).length = d.kept.length := tearI_len _ _ _ _
      have hK64 : ∀ s ∈ tearI keep d.wait d.kept i, s.length = 64 := tearI_64 H10k.out H10w.out i hi
      have hwt := H10w.out _ (List.getElem_mem hlt)
      have hstep : tearI keep d.wait d.kept (i + 1) = (tearI keep d.wait d.kept i).set d.wait[i].1 (torn d.wait[i].2 ((tearI keep d.wait d.kept i).getD d.wait[i].1 []) (tearN keep i)) := by
        rw [tearI, List.getD_eq_getElem?_getD, List.getElem?_eq_getElem hlt]
        rfl
      obtain ⟨b9, off9, c9, cs9, hv9, hb9, ⟨rfl, hp64⟩, hcell9⟩ := hwl2.at_ hlt
      simp only [Value.slice.injEq, true_and] at hv9
      obtain ⟨rfl, rfl⟩ := hv9
      obtain ⟨pw, hpw⟩ : ∃ pw, pw = d.wait[i] := ⟨_, rfl⟩
      rw [← hpw] at hcell9 hp64 hstep hwt
      obtain ⟨KL, hKd⟩ : ∃ KL, KL = tearI keep d.wait d.kept i := ⟨_, rfl⟩
      rw [← hKd] at ks hKlen hK64 hstep
      have HST := Lib.hid hstep
      have hq : pw.1 < d.kept.length := hwt.1
      have hb9k : b9 ≠ kb := fun e => h6 (by rw [← hb9, e])
      have hcell : ∀ j u, (#[Value.int .i64 (pw.1 : Int)] ++ (bs pw.2).toArray).toList[j]? = some u → wr.cell? ⟨b9, off9 + i * 65 + j, none⟩ = some u := fun j u hu => hk.cell (p := ⟨b9, off9 + i * 65 + j, none⟩) hb9k (hcell9 j u (by simpa using hu))
      have hpsz : (bs pw.2).toArray.size = 64 := by rw [List.size_toArray, bs_len, hp64]
      have hwsz : (#[Value.int .i64 (pw.1 : Int)] ++ (bs pw.2).toArray).size = 65 := by rw [Array.size_append, hpsz]; rfl
      have HP64 := Lib.hid hp64
      have HK64 := Lib.hid hK64
      have HKL := Lib.hid hKlen
      clear hp64 hstep hpw hKd hwt hcell9 hK64 hKlen
      go_upto_region 6 with fail
      refine wp_region_split 2 ?_
      simp only [List.take_succ_cons, List.take_zero, List.drop_succ_cons, List.drop_zero]
      go_wp2
      show wpList _ _ _ _ _ _
      refine wpList_ld (g := b9) (k := off9 + i * 65) (cs := #[Value.int .i64 (pw.1 : Int)] ++ (bs pw.2).toArray) rfl rfl rfl (fun j u hu => hcell j u hu) Tryz.underlying95 rfl (by rw [hwsz]; exact Tryz.infoWt2) ?_
      simp only [Act.put, List.setIfInBounds_toArray, List.set_cons_succ, List.set_cons_zero]
      refine wpList_split 2 ?_
      simp only [List.take_succ_cons, List.take_zero, List.drop_succ_cons, List.drop_zero]
      go_wp2
      show wpList _ _ _ _ _ _
      refine wpList_st rfl rfl (#[Value.int .i64 (pw.1 : Int)] ++ (bs pw.2).toArray) rfl rfl (Blk.new_ rfl) (by rw [hwsz]; simp) (by rw [hwsz]; exact Tryz.infoWt2) (wt_all _ _) ?_ rfl
      intro kw
      have hBw := fun zs => below_setCells (B := wr.heap.size) (a := wr) (b := wr.heap.size) (Nat.le_refl _) (#[Value.int .i64 (pw.1 : Int)] ++ (bs pw.2).toArray).toList 0 ((Below.refl _ _).alloc (Nat.le_refl _) (.cells zs 95))
      go_upto_region 8 with fail
      refine name_world (fun w3 => Below wr.heap.size wr w3 ∧ Blk w3 wr.heap.size 95 (#[Value.int .i64 (pw.1 : Int)] ++ (bs pw.2).toArray)) ⟨hBw _, kw⟩ ?_
      clear hBw kw
      rintro w3 ⟨hB3, kw⟩
      have ks3 := ks.below hB3 ks.lt
      have kg3 := kg.below hB3 kg.lt
      have hk3 : Kp (fun b => b ≠ kb) w2 w3 := hk.trans (.of_below hB3)
      have hwk : wr.heap.size ≠ kb := by have := ks.lt; omega
      obtain ⟨wb, hwb⟩ : ∃ wb, wb = wr.heap.size := ⟨_, rfl⟩
      rw [← hwb] at kw hwk
      rw [← hwb]
      have lg : ∀ s : LaterB w3 (fun b => b = kb), s.val.cell? ⟨g, 0, none⟩ = some (.slice (some ⟨kb, 0, none⟩) d.kept.length d.kept.length) := LaterB.cell (kg3.cell 0) (Ne.symm h4)
      have lq : ∀ s : LaterB w3 (fun b => b = kb), s.val.cell? ⟨wb, 0, none⟩ = some (.int .i64 (pw.1 : Int)) := LaterB.cell ((kw.cell 0).trans (by rw [← Array.getElem?_toList, Array.toList_append]; rfl)) hwk
      have hkp3 : RSl rInt okk w3 (.slice Ak nk ck) keep := hkeep2.kp (hk3.mono fun b hb e => hof b hb (e ▸ h8))
      obtain ⟨m, hm⟩ : ∃ m, m = tearN keep i := ⟨_, rfl⟩
      have hm64 : m ≤ 64 := by rw [hm]; exact tearN_le _ _
      have HM := Lib.hid hm
      clear hwb hcell hk ks kg r0 r1 r2 r3 hm
      go_upto_if 26 with fail
      go_cut [7] (fun v wx => v = .int .i64 (m : Int) ∧ wx = w3)
      case first =>
        by_cases hin : i < nk
        · have z1 : decide ((i : Int) < (nk : Int)) = true := decide_eq_true (by omega)
          have z2 : decide (i < nk) = true := decide_eq_true hin
          have hin2 : i < keep.length := by rw [← HNK.out]; exact hin
          obtain ⟨b6, off6, c6, cs6, hv6, _, ⟨hcs6, _⟩, hcell6⟩ := hkp3.at_ hin2
          rw [← HNK.out] at hv6
          simp only [Value.slice.injEq, true_and] at hv6
          obtain ⟨rfl, rfl⟩ := hv6
          have q5 : w3.cell? ⟨b6, off6 + i * 1, none⟩ = some (.int .i64 keep[i]) := hcell6 0 _ (by subst hcs6; rfl)
          have q6 : w3.cell? ⟨b6, off6 + i, none⟩ = some (.int .i64 keep[i]) := by simpa using q5
          have hmv : (m : Int) = min (max keep[i] 0) 64 := by
            rw [HM.out]
            unfold tearN
            rw [dif_pos hin2]
            omega
          obtain ⟨sv, hsv⟩ : ∃ sv, sv = keep[i] := ⟨_, rfl⟩
          rw [← hsv] at q5 q6 hmv
          have HMV := Lib.hid hmv
          clear hcell6 hcs6 hsv hmv
          go_wp2
          go_meet
          exact ⟨by rw [HMV.out], rfl⟩
        · have z1 : decide ((i : Int) < (nk : Int)) = false := decide_eq_false (by omega)
          have z2 : decide (i < nk) = false := decide_eq_false hin
          have hm0 : m = 0 := by
            rw [HM.out]
            unfold tearN
            rw [dif_neg (by rw [← HNK.out]; exact hin)]
          go_wp2
          go_meet
          exact ⟨by rw [hm0]; rfl, rfl⟩
      obtain ⟨rfl, hwx⟩ := hcut
      rw [hwx]
      clear hwx
      have hs1 := slice_arr_h kb (pw.1 * 64) m hm64
      have hs2 := slice_arr_h wb 1 m hm64
      go_upto_region 10 with fail
      refine wp_seqB (fun b => b = kb) 12 [12] (by as_aux_lemma => kernel_rfl) (by as_aux_lemma => kernel_rfl) fun w4 hb4 => ?_
      refine seqB_pre 12 (by kernel_rfl) ?_
      simp only [List.take_succ_cons, List.take_zero, List.drop_succ_cons, List.drop_zero]
      repeat (go_big_quiet_step (fail))
      refine wpQuiet_nil ?_
      have ks4 := ks3.below hb4 ks3.lt
      have kw4 := kw.below hb4 kw.lt
      have kss := sec_copy ks4 HK64.out (i := pw.1) (by rw [HKL.out]; exact hq) HP64.out hm64
      have hst : Kp (fun b => ¬ b = kb) w4 (w4.setRow kb ((secCells KL).toArray.toList.take (pw.1 * 64) ++ bs (pw.2.take m) ++ (secCells KL).toArray.toList.drop (pw.1 * 64 + (bs (pw.2.take m)).length)).toArray) := Kp.setRow _ (fun hh => hh rfl)
      have hcl : (bs (pw.2.take m)).length = m := by rw [bs_len, List.length_take, HP64.out]; omega
      have hsrc : ∀ j v, (bs (pw.2.take m))[j]? = some v → w4.cell? ⟨wb, 1 + j, none⟩ = some v := fun j v hv => by
        have h0 : j < m := by rw [← hcl]; exact (List.getElem?_eq_some_iff.1 hv).1
        rw [← bs_take, List.getElem?_take_of_lt h0] at hv
        rw [kw4.cell (1 + j), ← Array.getElem?_toList, Array.toList_append, List.getElem?_append_right (by simp), ← hv]
        simp
      refine seqB_wild (Kp.of_below hb4) rfl rfl fun K hK => ?_
      refine gives_copy (g := kb) (off := pw.1 * 64) (dn := m) (dc := 64) (sb := wb) (so := 1) (sn := m) (sc := 64) (T := 93) (elem := 5) (cur := (secCells KL).toArray) (cs := bs (pw.2.take m)) rfl rfl rfl rfl Tryz.underlying25 (by kernel_rfl) ks4 (by rw [hcl]; exact (Nat.min_self m).symm) hsrc (by rw [hcl, List.size_toArray, secCells_len _ HK64.out, HKL.out]; omega) (bs_one _) ?_
      generalize hwr : World.setRow w4 kb _ = w5 at kss hst ⊢
      clear hwr
      refine hK _ _ (hst) fun hK5 => ?_
      clear hK
      clear K
      simp only [Act.put, List.setIfInBounds_toArray, List.set_cons_succ, List.set_cons_zero]
      refine seqB_nil ?_
      have hk5 : Kp (fun b => b ≠ kb) w2 w5 := hk3.trans hK5
      clear lg lq hs1 hs2 hsrc hcl
      go_wp2
      go_roundw
      case rel => exact ⟨i + 1, by omega, by go_num, hk5, by rw [HST.out, ← HM.out]; exact kss⟩
      case measure => simp [intOf]; omega
    · have u0 : decide ((i : Int) < (d.wait.length : Int)) = false := decide_eq_false (by omega)
      obtain rfl : i = d.wait.length := by omega
      have fg := fun i => kg.frozen i
      have hkp : Kp (fun b => b ≠ g) wr (wr.setCell ⟨g, 1, none⟩ (.slice none 0 0)) := (Kp.refl _ _).setCell (fun _ h => h rfl) _
      have kgz := kg.set_ 1 (.slice none 0 0)
      have ksz := ks.far (p := ⟨g, 1, none⟩) h4 (.slice none 0 0)
      have hfin : DiskR ft (wr.setCell ⟨g, 1, none⟩ (.slice none 0 0)) g (d.crash keep) := by
        refine ⟨kb, .slice none 0 0, ?_, ksz, OwnL.nil_ _ _ _ _ _, h4, by simp [Value.ownBlock], by simp [Value.ownBlock], h7, h8, (fun b hb => by cases hb), ⟨tearI_64 H10k.out H10w.out _ (Nat.le_refl _), (fun p hp => by cases hp)⟩, ?_⟩
        · have e := tearI_len keep d.wait d.kept d.wait.length
          unfold DskD.crash
          simp only [e]
          simpa using kgz
        · refine ⟨by simp only [DskD.crash, tearI_len]; omega, by simp only [DskD.crash, tearI_len]; omega, h13, by simp [DskD.crash]⟩
      have hKf : Kp (fun b => ¬ ft b) w (wr.setCell ⟨g, 1, none⟩ (.slice none 0 0)) := ((hk2.mono fun b hb e => hb (e ▸ h7)).trans (hk.mono fun b hb e => hb (e ▸ h8))).trans (hkp.mono fun b hb e => hb (e ▸ h7))
      have HF := Lib.hid hfin
      clear hfin kgz ksz hkp hwl2
      go_wp2
      go_ret
      exact ⟨rfl, HF.out, hKf⟩
end Go.Proofs.YtnlhjhpikjmoaaaGreatDoor
namespace Go.Proofs.YtnlhjhpikjmoaaaGreatDoor
open Go.RowKit
def DskD.start (d : DskD) : DskD := if d.down = true then { d with armed := 0, down := false, wait := [] } else { d with armed := 0 }
def DskD.arm (d : DskD) (n : Int) : DskD := { d with armed := (max n 0).toNat }
set_option maxRecDepth 100000 in
set_option maxHeartbeats 3200000 in
theorem dStart_any {ft : Nat → Prop} {g : Nat} {d : DskD} {w : World} (h : DiskR ft w g d) :
    Calls Tryz.prog 21 #[.pointer (some ⟨g, 0, none⟩)] w fun e w' => e = .returned (.int .i64 0) ∧ DiskR ft w' g d.start ∧ Kp (fun b => ¬ ft b) w w' := by
  have hft := h.ft
  obtain ⟨kb, vw, h1, h2, h3, h4, h5, h6, h7, h8, h9, h10, h11, h12, h13, h14⟩ := h
  obtain ⟨c0, c1, c2, c3⟩ := dk_cells h1
  have fg := fun i => h1.frozen i
  have kg1 : Blk (w.setCell ⟨g, 3, none⟩ (.int .i64 0)) g 91 #[.slice (some ⟨kb, 0, none⟩) d.kept.length d.kept.length, vw, .bool d.down, .int .i64 0] := h1.set_ 3 (.int .i64 0)
  have hk1 : Kp (fun b => b ≠ g) w (w.setCell ⟨g, 3, none⟩ (.int .i64 0)) := (Kp.refl _ _).setCell (fun _ h => h rfl) _
  have ks1 := h2.far (p := ⟨g, 3, none⟩) h4 (.int .i64 0)
  have ho1 := h3.kp hk1 (fun _ h => h.elim) (fun b hb e => h5 (by rw [hb, e]))
  have HK1 := Lib.hid kg1
  have HKK := Lib.hid hk1
  have HKS := Lib.hid ks1
  have HO1 := Lib.hid ho1
  clear kg1 hk1 ks1 ho1 h2 h3 c1
  go_enter Tryz.func21, Tryz.ntmps21
  go_upto_region 4 with fail
  refine name_world (fun w2 => Blk w2 g 91 #[.slice (some ⟨kb, 0, none⟩) d.kept.length d.kept.length, vw, .bool d.down, .int .i64 0] ∧ Kp (fun b => b ≠ g) w w2 ∧ Blk w2 kb 93 (secCells d.kept).toArray ∧ OwnL rWt (fun _ => False) 0 95 w2 vw d.wait) ⟨HK1.out, HKK.out, HKS.out, HO1.out⟩ ?_
  clear HK1 HKK HKS HO1 c0 c2 c3 fg h1
  rintro w2 ⟨hg2, hk2, ks2, ho2⟩
  have fg := fun i => hg2.frozen i
  have e2 : w2.cell? ⟨g, 2, none⟩ = some (.bool d.down) := hg2.cell 2
  cases hd : d.down
  · rw [hd] at e2
    have hfin : DiskR ft w2 g d.start := by
      unfold DskD.start
      rw [if_neg (by rw [hd]; decide)]
      exact ⟨kb, vw, hg2, ks2, ho2, h4, h5, h6, h7, h8, h9, ⟨h10.kept, h10.wait⟩, h11, h12, (by show (0 : Nat) < 9223372036854775808; omega), h14⟩
    have HF := Lib.hid hfin
    clear hfin hg2 ks2 ho2 hd
    go_wp2
    go_ret
    exact ⟨rfl, HF.out, hk2.mono fun b hb e => hb (e ▸ h7)⟩
  · rw [hd] at e2
    have kg3 : Blk (w2.setCell ⟨g, 2, none⟩ (.bool false)) g 91 #[.slice (some ⟨kb, 0, none⟩) d.kept.length d.kept.length, vw, .bool false, .int .i64 0] := hg2.set_ 2 (.bool false)
    have kg4 : Blk ((w2.setCell ⟨g, 2, none⟩ (.bool false)).setCell ⟨g, 1, none⟩ (.slice none 0 0)) g 91 #[.slice (some ⟨kb, 0, none⟩) d.kept.length d.kept.length, .slice none 0 0, .bool false, .int .i64 0] := kg3.set_ 1 (.slice none 0 0)
    have fg3 := fun i => kg3.frozen i
    have e3 : (w2.setCell ⟨g, 2, none⟩ (.bool false)).cell? ⟨g, 1, none⟩ = some vw := kg3.cell 1
    have hk4 : Kp (fun b => b ≠ g) w2 ((w2.setCell ⟨g, 2, none⟩ (.bool false)).setCell ⟨g, 1, none⟩ (.slice none 0 0)) := ((Kp.refl _ _).setCell (fun _ h => h rfl) _).setCell (fun _ h => h rfl) _
    have ks4 := (ks2.far (p := ⟨g, 2, none⟩) h4 (.bool false)).far (p := ⟨g, 1, none⟩) h4 (.slice none 0 0)
    have hfin : DiskR ft ((w2.setCell ⟨g, 2, none⟩ (.bool false)).setCell ⟨g, 1, none⟩ (.slice none 0 0)) g d.start := by
      unfold DskD.start
      rw [if_pos hd]
      exact ⟨kb, .slice none 0 0, kg4, ks4, OwnL.nil_ _ _ _ _ _, h4, by simp [Value.ownBlock], by simp [Value.ownBlock], h7, h8, (fun b hb => by cases hb), ⟨h10.kept, (fun p hp => by cases hp)⟩, h11, h12, (by show (0 : Nat) < 9223372036854775808; omega), by simp⟩
    have HF := Lib.hid hfin
    have hkf : Kp (fun b => ¬ ft b) w ((w2.setCell ⟨g, 2, none⟩ (.bool false)).setCell ⟨g, 1, none⟩ (.slice none 0 0)) := (hk2.mono fun b hb e => hb (e ▸ h7)).trans (hk4.mono fun b hb e => hb (e ▸ h7))
    have HKF := Lib.hid hkf
    clear hfin hkf hk4 ks4 kg4 kg3 hg2 ks2 ho2 hd hk2
    go_wp2
    go_ret
    exact ⟨rfl, HF.out, HKF.out⟩
set_option maxRecDepth 100000 in
set_option maxHeartbeats 3200000 in
theorem dArm_any {ft : Nat → Prop} {g : Nat} {d : DskD} {w : World} (h : DiskR ft w g d) (n : Int) (hn : I64 n) :
    Calls Tryz.prog 23 #[.pointer (some ⟨g, 0, none⟩), .int .i64 n] w fun e w' => e = .returned (.int .i64 0) ∧ DiskR ft w' g (d.arm n) ∧ Kp (fun b => ¬ ft b) w w' := by
  have hft := h.ft
  obtain ⟨kb, vw, h1, h2, h3, h4, h5, h6, h7, h8, h9, h10, h11, h12, h13, h14⟩ := h
  obtain ⟨c0, c1, c2, c3⟩ := dk_cells h1
  have fg := fun i => h1.frozen i
  obtain ⟨m, hm⟩ : ∃ m : Nat, m = (max n 0).toNat := ⟨_, rfl⟩
  have hmn : max n 0 = (m : Int) := by omega
  have hm64 : m < 9223372036854775808 := by have := hn.2; omega
  have kg1 : Blk (w.setCell ⟨g, 3, none⟩ (.int .i64 (m : Int))) g 91 #[.slice (some ⟨kb, 0, none⟩) d.kept.length d.kept.length, vw, .bool d.down, .int .i64 (m : Int)] := h1.set_ 3 (.int .i64 (m : Int))
  have hk1 : Kp (fun b => b ≠ g) w (w.setCell ⟨g, 3, none⟩ (.int .i64 (m : Int))) := (Kp.refl _ _).setCell (fun _ h => h rfl) _
  have ks1 := h2.far (p := ⟨g, 3, none⟩) h4 (.int .i64 (m : Int))
  have ho1 := h3.kp hk1 (fun _ h => h.elim) (fun b hb e => h5 (by rw [hb, e]))
  have hfin : DiskR ft (w.setCell ⟨g, 3, none⟩ (.int .i64 (m : Int))) g (d.arm n) := by
    unfold DskD.arm
    rw [← hm]
    exact ⟨kb, vw, kg1, ks1, ho1, h4, h5, h6, h7, h8, h9, ⟨h10.kept, h10.wait⟩, h11, h12, hm64, h14⟩
  rw [← hmn] at hfin hk1
  have HF := Lib.hid hfin
  have HK := Lib.hid (hk1.mono (ok' := fun b => ¬ ft b) fun b hb e => hb (e ▸ h7))
  clear kg1 hk1 ks1 ho1 h2 h3 c1 hfin hmn hm hm64
  go_enter Tryz.func23, Tryz.ntmps23
  go_wp2
  go_ret
  exact ⟨rfl, HF.out, HK.out⟩
end Go.Proofs.YtnlhjhpikjmoaaaGreatDoor
