/- Contracts: vault.Right, rightEntries.
Contracts: the document's Right. -/
import Derived.Test.YtnlhjhpikjmoaaaGreatDoorA9
import Derived.Test.YtnlhjhpikjmoaaaGreatDoorS0
import Derived.Lib.MinMax
namespace Go.Proofs.YtnlhjhpikjmoaaaGreatDoor
open Go.RowKit

set_option maxRecDepth 100000 in
set_option maxHeartbeats 3200000 in
theorem rightE_any {ok : Nat → Prop} {w : World} {vsd ves : Value} {l : VLog} (h : VLm ok w vsd ves l) (hsi : l.si ≤ 4611686018427387904) :
    Calls Tryz.prog 27 #[.agg (vlCs l vsd ves)] w fun e w' => e = .returned (.bool (rightE l.term (max l.st 1) l.si l.es)) ∧ Below w.heap.size w w' := by
  obtain ⟨As, cs, rfl, _, _⟩ := h.sd.form
  obtain ⟨Ae, ce, rfl, hce, hel⟩ := h.es.form
  obtain ⟨m, hm⟩ : ∃ m, m = l.es.length := ⟨_, rfl⟩
  obtain ⟨ms, hms⟩ : ∃ ms, ms = l.sd.length := ⟨_, rfl⟩
  have hes := h.es
  rw [← hm] at hes hce hel
  have hm40 : m * 40 ≤ 140737488351232 := hel
  rw [← hm, ← hms]
  have HM := Lib.hid hm
  have HES := Lib.hid hes
  have hkb := Blk.new w 30 (vlCs l (.slice As ms cs) (.slice Ae m ce))
  have hal : Below w.heap.size w (w.alloc (.cells (vlCs l (.slice As ms cs) (.slice Ae m ce)) 30)) := (Below.refl _ _).alloc (Nat.le_refl _) _
  have HKB := Lib.hid hkb
  have HAL := Lib.hid hal
  clear h hes hm hms hkb hal hel
  unfold vlCs at *
  go_enter Tryz.func27, Tryz.ntmps27
  go_wp2
  obtain ⟨wb, hwb⟩ : ∃ wb, wb = w.heap.size := ⟨_, rfl⟩
  refine name_world (fun w1 => Blk w1 wb 30 #[.int .u64 (l.term : Int), .int .i64 l.vote, .int .u64 (l.si : Int), .int .u64 (l.st : Int), .slice As ms cs, .slice Ae m ce] ∧ Below w.heap.size w w1 ∧ wb < w1.heap.size) ⟨by rw [hwb]; exact HKB.out, HAL.out, by rw [hwb]; simp⟩ ?_
  rintro w1 ⟨hb1, hB1, hlt1⟩
  rw [← hwb]
  have HWB := Lib.hid hwb
  clear HKB HAL hwb
  go_loopw [3, 13] (fun vt vi wr => ∃ i t : Nat, i ≤ m ∧ vi = .int .i64 (i : Int) ∧ vt = .int .u64 (t : Int) ∧ Below w1.heap.size w1 wr ∧ Hid (rightE l.term (max l.st 1) l.si l.es = rightE l.term t (l.si + i) (l.es.drop i))) (fun _ vi _ => m - (intOf vi).toNat)
  case atStart => exact ⟨0, max l.st 1, by omega, rfl, by congr 1; omega, Below.refl _ _, Lib.hid rfl⟩
  case round =>
    obtain ⟨i, t, hi, rfl, rfl, hb, HP⟩ := hrel
    have hbr := hb1.below hb hlt1
    have c0 : wr.cell? ⟨wb, 0, none⟩ = some (.int .u64 (l.term : Int)) := hbr.cell 0
    have c2 : wr.cell? ⟨wb, 2, none⟩ = some (.int .u64 (l.si : Int)) := hbr.cell 2
    have hltr : wb < wr.heap.size := hbr.lt
    by_cases hlt : i < m
    · have hil : i < l.es.length := by rw [← HM.out]; exact hlt
      obtain ⟨b5, off5, c5, cs5, hv5, _, ⟨vd, rfl, hvd, ht64, hi64⟩, hcell5⟩ := ((HES.out.below hB1).below hb).at_ hil
      rw [← HM.out] at hv5
      obtain ⟨rfl, rfl⟩ : Ae = some ⟨b5, off5, none⟩ ∧ ce = c5 := by simpa using hv5
      obtain ⟨A6, c6, rfl, hf6⟩ := hvd.form
      obtain ⟨e, he⟩ : ∃ e, e = l.es[i] := ⟨_, rfl⟩
      rw [← he] at hcell5 ht64 hi64 hf6
      have q0 : wr.cell? ⟨b5, off5 + i * 3, none⟩ = some (.int .u64 (e.term : Int)) := hcell5 0 _ rfl
      have q1 : wr.cell? ⟨b5, off5 + i * 3 + 1, none⟩ = some (.int .u64 (e.idx : Int)) := by have := hcell5 1 _ rfl; rwa [Nat.add_assoc]
      have q2 : wr.cell? ⟨b5, off5 + i * 3 + 2, none⟩ = some (.slice A6 e.data.length c6) := by have := hcell5 2 _ rfl; rwa [Nat.add_assoc]
      have hdr : l.es.drop i = e :: l.es.drop (i + 1) := by rw [he]; exact List.drop_eq_getElem_cons hil
      rw [hdr] at HP
      have hw1 : IntKind.u64.wrap ((l.si : Int) + (i : Int)) = ((l.si + i : Nat) : Int) := by rw [IntKind.wrap_u64]; omega
      have hw2 : IntKind.u64.wrap (((l.si + i : Nat) : Int) + 1) = ((l.si + i + 1 : Nat) : Int) := by rw [IntKind.wrap_u64]; omega
      clear hcell5 hv5 hvd hf6 he hdr ht64 hi64
      go_upto_region 5 with fail
      obtain ⟨dl, hdl⟩ : ∃ dl, dl = e.data.length := ⟨_, rfl⟩
      rw [← hdl]
      have HDL := Lib.hid hdl
      obtain ⟨we, hwe⟩ : ∃ we, we = wr.heap.size := ⟨_, rfl⟩
      refine name_world (fun w2 => Blk w2 we 50 #[.int .u64 (e.term : Int), .int .u64 (e.idx : Int), .slice A6 dl c6] ∧ Below wr.heap.size wr w2) ⟨by rw [hwe, hdl]; exact Blk.new _ _ _, (Below.refl _ _).alloc (Nat.le_refl _) _⟩ ?_
      rintro w2 ⟨hbe, hB2⟩
      rw [← hwe]
      have HWE := Lib.hid hwe
      have d0 : w2.cell? ⟨wb, 0, none⟩ = some (.int .u64 (l.term : Int)) := (hB2.cell (p := ⟨wb, 0, none⟩) hltr).trans c0
      have d2 : w2.cell? ⟨wb, 2, none⟩ = some (.int .u64 (l.si : Int)) := (hB2.cell (p := ⟨wb, 2, none⟩) hltr).trans c2
      have e0 : w2.cell? ⟨we, 0, none⟩ = some (.int .u64 (e.term : Int)) := hbe.cell 0
      have e1 : w2.cell? ⟨we, 1, none⟩ = some (.int .u64 (e.idx : Int)) := hbe.cell 1
      have e2 : w2.cell? ⟨we, 2, none⟩ = some (.slice A6 dl c6) := hbe.cell 2
      have hB3 := hb.trans (hB2.mono hb.size)
      clear q0 q1 q2 c0 c2 hbe hbr hdl hwe
      have hR : rightE l.term t (l.si + i) (e :: l.es.drop (i + 1)) = (e.idx == l.si + i + 1 && (decide (t ≤ e.term) && (decide (e.term ≤ l.term) && (decide (dl ≤ 32668) && rightE l.term e.term (l.si + i + 1) (l.es.drop (i + 1)))))) := by rw [HDL.out]; rfl
      have HR := Lib.hid (HP.out.trans hR)
      clear HP hR
      by_cases h1 : e.idx = l.si + i + 1
      · have z1 : ((e.idx : Int) != ((l.si + i + 1 : Nat) : Int)) = false := by rw [h1]; exact bne_self_eq_false _
        have z1' : ((e.idx : Int) != (l.si : Int) + (i : Int) + 1) = false := by rw [bne_eq_false_iff_eq]; omega
        have HH1 := Lib.hid h1
        clear h1
        by_cases h2 : t ≤ e.term
        · have z2 : decide (e.term < t) = false := decide_eq_false (by omega)
          by_cases h3 : e.term ≤ l.term
          · have z3 : decide (l.term < e.term) = false := decide_eq_false (by omega)
            by_cases h4 : dl ≤ 32668
            · have z4 : decide ((dl : Int) > 32668) = false := decide_eq_false (by omega)
              have z5 : decide (32668 < dl) = false := decide_eq_false (by omega)
              have HR2 := Lib.hid (show rightE l.term (max l.st 1) l.si l.es = rightE l.term e.term (l.si + (i + 1)) (l.es.drop (i + 1)) by
                rw [HR.out, HH1.out, decide_eq_true h2, decide_eq_true h3, decide_eq_true h4, ← Nat.add_assoc]
                simp)
              clear HR HH1 h2 h3 h4
              go_wp2
              go_roundw
              case rel => exact ⟨i + 1, e.term, by omega, by go_num, rfl, hB3, HR2⟩
              case measure => simp [intOf]; omega
            · have z4 : decide ((dl : Int) > 32668) = true := decide_eq_true (by omega)
              have z5 : decide (32668 < dl) = true := decide_eq_true (by omega)
              have HR2 := Lib.hid (show rightE l.term (max l.st 1) l.si l.es = false by rw [HR.out, decide_eq_false h4]; simp)
              clear HR HH1 h2 h3 h4
              go_wp2
              go_ret
              exact ⟨by rw [HR2.out]; rfl, hB1.trans (hB3.mono hB1.size)⟩
          · have z3 : decide (l.term < e.term) = true := decide_eq_true (by omega)
            have HR2 := Lib.hid (show rightE l.term (max l.st 1) l.si l.es = false by rw [HR.out, decide_eq_false h3]; simp)
            clear HR HH1 h2 h3
            go_wp2
            go_ret
            exact ⟨by rw [HR2.out]; rfl, hB1.trans (hB3.mono hB1.size)⟩
        · have z2 : decide (e.term < t) = true := decide_eq_true (by omega)
          have HR2 := Lib.hid (show rightE l.term (max l.st 1) l.si l.es = false by rw [HR.out, decide_eq_false h2]; simp)
          clear HR HH1 h2
          go_wp2
          go_ret
          exact ⟨by rw [HR2.out]; rfl, hB1.trans (hB3.mono hB1.size)⟩
      · have z1 : ((e.idx : Int) != ((l.si + i + 1 : Nat) : Int)) = true := by rw [bne_iff_ne]; omega
        have z1' : ((e.idx : Int) != (l.si : Int) + (i : Int) + 1) = true := by rw [bne_iff_ne]; omega
        have HR2 := Lib.hid (show rightE l.term (max l.st 1) l.si l.es = false by
          rw [HR.out, show (e.idx == l.si + i + 1) = false from beq_eq_false_iff_ne.2 h1]
          rfl)
        clear HR h1
        go_wp2
        go_ret
        exact ⟨by rw [HR2.out]; rfl, hB1.trans (hB3.mono hB1.size)⟩
    · obtain rfl : i = m := by omega
      have HR2 := Lib.hid (show rightE l.term (max l.st 1) l.si l.es = true by rw [HP.out, List.drop_of_length_le (by rw [← HM.out]; omega)]; rfl)
      clear HP
      go_wp2
      go_ret
      exact ⟨by rw [HR2.out]; rfl, hB1.trans (hb.mono hB1.size)⟩
set_option maxRecDepth 100000 in
set_option maxHeartbeats 3200000 in
theorem vright_any {ok : Nat → Prop} {w : World} {vsd ves : Value} {l : VLog} (h : VLm ok w vsd ves l) :
    Calls Tryz.prog 11 #[.agg (vlCs l vsd ves)] w fun e w' => e = .returned (.bool (rightV l)) ∧ Below w.heap.size w w' := by
  have hRE := fun hsi => fun (w' : World) (hb : Below w.heap.size w w') => rightE_any (h.below hb) hsi
  obtain ⟨As, cs, rfl, _, hsl⟩ := h.sd.form
  obtain ⟨Ae, ce, rfl, _, _⟩ := h.es.form
  obtain ⟨m, hm⟩ : ∃ m, m = l.es.length := ⟨_, rfl⟩
  obtain ⟨ms, hms⟩ : ∃ ms, ms = l.sd.length := ⟨_, rfl⟩
  rw [← hm, ← hms]
  rw [← hm, ← hms] at hRE
  have hRV : rightV l = (decide (l.st ≤ l.term) && (decide (l.si = 0 ↔ l.st = 0) && (decide (l.si ≤ 4611686018427387904) && (decide (ms ≤ 32668) && (decide (0 ≤ l.vote) && (decide (l.vote ≤ 5) && rightE l.term (max l.st 1) l.si l.es)))))) := by rw [hms]; rfl
  have HRV := Lib.hid hRV
  have HRE := Lib.hid hRE
  have hkb := Blk.new w 30 (vlCs l (.slice As ms cs) (.slice Ae m ce))
  have hal : Below w.heap.size w (w.alloc (.cells (vlCs l (.slice As ms cs) (.slice Ae m ce)) 30)) := (Below.refl _ _).alloc (Nat.le_refl _) _
  have HKB := Lib.hid hkb
  have HAL := Lib.hid hal
  have hvote := h.vote
  clear h hkb hal hRE hRV hm hms hsl
  unfold vlCs at *
  go_enter Tryz.func11, Tryz.ntmps11
  go_upto_region 1 with fail
  obtain ⟨wb, hwb⟩ : ∃ wb, wb = w.heap.size := ⟨_, rfl⟩
  refine name_world (fun w1 => Blk w1 wb 30 #[.int .u64 (l.term : Int), .int .i64 l.vote, .int .u64 (l.si : Int), .int .u64 (l.st : Int), .slice As ms cs, .slice Ae m ce] ∧ Below w.heap.size w w1 ∧ wb < w1.heap.size) ⟨by rw [hwb]; exact HKB.out, HAL.out, by rw [hwb]; simp⟩ ?_
  rintro w1 ⟨hb1, hB1, hlt1⟩
  rw [← hwb]
  have HWB := Lib.hid hwb
  clear HKB HAL hwb
  have c2 : w1.cell? ⟨wb, 2, none⟩ = some (.int .u64 (l.si : Int)) := hb1.cell 2
  have c3 : w1.cell? ⟨wb, 3, none⟩ = some (.int .u64 (l.st : Int)) := hb1.cell 3
  have c4 : w1.cell? ⟨wb, 4, none⟩ = some (.slice As ms cs) := hb1.cell 4
  go_upto_region 2 with fail
  obtain ⟨we, hwe⟩ : ∃ we, we = w1.heap.size := ⟨_, rfl⟩
  refine name_world (fun w2 => Blk w2 we 27 #[.int .u64 (l.si : Int), .int .u64 (l.st : Int), .slice As ms cs] ∧ Below w1.heap.size w1 w2) ⟨by rw [hwe]; exact Blk.new _ _ _, (Below.refl _ _).alloc (Nat.le_refl _) _⟩ ?_
  rintro w2 ⟨hbe, hB2⟩
  rw [← hwe]
  have HWE := Lib.hid hwe
  have hb2 := hb1.below hB2 hlt1
  have d0 : w2.cell? ⟨wb, 0, none⟩ = some (.int .u64 (l.term : Int)) := hb2.cell 0
  have d1 : w2.cell? ⟨wb, 1, none⟩ = some (.int .i64 l.vote) := hb2.cell 1
  have d2 : w2.cell? ⟨wb, 2, none⟩ = some (.int .u64 (l.si : Int)) := hb2.cell 2
  have d3 : w2.cell? ⟨wb, 3, none⟩ = some (.int .u64 (l.st : Int)) := hb2.cell 3
  have d4 : w2.cell? ⟨wb, 4, none⟩ = some (.slice As ms cs) := hb2.cell 4
  have d5 : w2.cell? ⟨wb, 5, none⟩ = some (.slice Ae m ce) := hb2.cell 5
  have e0 : w2.cell? ⟨we, 0, none⟩ = some (.int .u64 (l.si : Int)) := hbe.cell 0
  have e1 : w2.cell? ⟨we, 1, none⟩ = some (.int .u64 (l.st : Int)) := hbe.cell 1
  have e2 : w2.cell? ⟨we, 2, none⟩ = some (.slice As ms cs) := hbe.cell 2
  have hBz := hB1.trans (hB2.mono hB1.size)
  clear c2 c3 c4 hb1 hb2 hbe hwe hlt1
  obtain ⟨b1, h1⟩ : ∃ b : Bool, decide (l.term < l.st) = b := ⟨_, rfl⟩
  obtain ⟨bx, hx⟩ : ∃ b : Bool, ((l.si : Int) == 0) = b := ⟨_, rfl⟩
  obtain ⟨bz, hz⟩ : ∃ b : Bool, ((l.st : Int) == 0) = b := ⟨_, rfl⟩
  obtain ⟨b3, h3⟩ : ∃ b : Bool, decide (4611686018427387904 < l.si) = b := ⟨_, rfl⟩
  obtain ⟨b4, h4⟩ : ∃ b : Bool, decide (32668 < ms) = b := ⟨_, rfl⟩
  obtain ⟨b5, h5⟩ : ∃ b : Bool, decide (0 ≤ l.vote) = b := ⟨_, rfl⟩
  obtain ⟨b6, h6⟩ : ∃ b : Bool, decide (l.vote ≤ 5) = b := ⟨_, rfl⟩
  obtain ⟨hb, hhb⟩ : ∃ hb : Bool, hb = (b1 || ((bx != bz) || (b3 || b4))) := ⟨_, rfl⟩
  have hRV2 : rightV l = (!hb && (b5 && (b6 && rightE l.term (max l.st 1) l.si l.es))) := by
    have e1 : decide (l.st ≤ l.term) = !b1 := by rw [← h1, ← decide_not]; congr 1; simp
    have e2 : decide (l.si = 0 ↔ l.st = 0) = !(bx != bz) := by
      have a1 : ((l.si : Int) == 0) = decide (l.si = 0) := by rw [Bool.eq_iff_iff]; simp
      have a2 : ((l.st : Int) == 0) = decide (l.st = 0) := by rw [Bool.eq_iff_iff]; simp
      rw [← hx, ← hz, a1, a2]
      by_cases p : l.si = 0 <;> by_cases q : l.st = 0 <;> simp [p, q]
    have e3 : decide (l.si ≤ 4611686018427387904) = !b3 := by rw [← h3, ← decide_not]; congr 1; simp
    have e4 : decide (ms ≤ 32668) = !b4 := by rw [← h4, ← decide_not]; congr 1; simp
    rw [HRV.out, hhb, e1, e2, e3, e4, h5, h6]
    cases b1 <;> cases bx <;> cases bz <;> cases b3 <;> cases b4 <;> simp
  have h3i : b3 = false → l.si ≤ 4611686018427387904 := fun h => by rw [h, decide_eq_false_iff_not] at h3; omega
  have h3h : hb = false → b3 = false := fun h => by rw [hhb] at h; revert h; cases b1 <;> cases bx <;> cases bz <;> cases b3 <;> simp
  have HB := Lib.hid hhb
  have HR2 := Lib.hid hRV2
  have H3 := Lib.hid (fun h => h3i (h3h h))
  have z3 : decide ((l.si : Int) > 4611686018427387904) = b3 := by rw [← h3]; congr 1; rw [eq_iff_iff]; omega
  have z4 : decide ((ms : Int) > 32668) = b4 := by rw [← h4]; congr 1; rw [eq_iff_iff]; omega
  have z1 : decide ((l.st : Int) > (l.term : Int)) = b1 := by rw [← h1]; congr 1; rw [eq_iff_iff]; omega
  have z5 : decide (l.vote ≥ 0) = b5 := h5
  clear hhb hRV2 h3i h3h HRV
  go_cut [31] (fun v wx => v = .bool hb ∧ wx = w2)
  case first =>
    cases b1
    rotate_left
    · (go_wp2; go_meet; exact ⟨by rw [HB.out]; rfl, rfl⟩)
    cases bx <;> cases bz
    rotate_left
    · (go_wp2; go_meet; exact ⟨by rw [HB.out]; rfl, rfl⟩)
    · (go_wp2; go_meet; exact ⟨by rw [HB.out]; rfl, rfl⟩)
    all_goals cases b3
    all_goals (cases b4 <;> (go_wp2; go_meet; exact ⟨by rw [HB.out]; rfl, rfl⟩))
  obtain ⟨rfl, hwx⟩ := hcut
  rw [hwx]
  clear hwx h1 hx hz h3 h4 z3 z4 z1
  cases hb
  rotate_left
  · have HR3 := Lib.hid (show rightV l = false by rw [HR2.out]; rfl)
    go_wp2
    go_ret
    exact ⟨by rw [HR3.out]; rfl, hBz⟩
  cases b5
  · have HR3 := Lib.hid (show rightV l = false by rw [HR2.out]; rfl)
    go_wp2
    go_ret
    exact ⟨by rw [HR3.out]; rfl, hBz⟩
  cases b6
  · have HR3 := Lib.hid (show rightV l = false by rw [HR2.out]; rfl)
    go_wp2
    go_ret
    exact ⟨by rw [HR3.out]; rfl, hBz⟩
  have HR3 := Lib.hid (show rightV l = rightE l.term (max l.st 1) l.si l.es by rw [HR2.out]; simp)
  have HC := Lib.hid (HRE.out (H3.out rfl) w2 hBz)
  go_wp2_with fail
  refine HC.out.mono ?_
  rintro e w3 ⟨rfl, hB3⟩
  go_wp2
  go_ret
  exact ⟨by rw [HR3.out]; rfl, hBz.trans (hB3.mono hBz.size)⟩
end Go.Proofs.YtnlhjhpikjmoaaaGreatDoor

namespace Go.Proofs.YtnlhjhpikjmoaaaGreatDoor
open Go.RowKit

set_option maxRecDepth 100000 in
set_option maxHeartbeats 6400000 in
theorem vrefRight_any {ok : Nat → Prop} {w : World} {vsd ves : Value} {l : VLog} (h : VLm ok w vsd ves l) :
    Calls Tryz.prog 12 #[.agg (vlCs l vsd ves)] w fun e w' => e = .returned (.bool (rightV l)) ∧ Below w.heap.size w w' := by
  obtain ⟨As, cs, rfl, _, hsl⟩ := h.sd.form
  obtain ⟨Ae, ce, rfl, hce, hel⟩ := h.es.form
  obtain ⟨m, hm⟩ : ∃ m, m = l.es.length := ⟨_, rfl⟩
  obtain ⟨ms, hms⟩ : ∃ ms, ms = l.sd.length := ⟨_, rfl⟩
  have hes := h.es
  rw [← hm] at hes hce hel
  have hm40 : m * 40 ≤ 140737488351232 := hel
  rw [← hm, ← hms]
  have hRV : rightV l = (decide (l.st ≤ l.term) && (decide (l.si = 0 ↔ l.st = 0) && (decide (l.si ≤ 4611686018427387904) && (decide (ms ≤ 32668) && (decide (0 ≤ l.vote) && (decide (l.vote ≤ 5) && rightE l.term (max l.st 1) l.si l.es)))))) := by rw [hms]; rfl
  have HRV := Lib.hid hRV
  have HM := Lib.hid hm
  have HES := Lib.hid hes
  have hkb := Blk.new w 30 (vlCs l (.slice As ms cs) (.slice Ae m ce))
  have hal : Below w.heap.size w (w.alloc (.cells (vlCs l (.slice As ms cs) (.slice Ae m ce)) 30)) := (Below.refl _ _).alloc (Nat.le_refl _) _
  have HKB := Lib.hid hkb
  have HAL := Lib.hid hal
  clear h hkb hal hRV hm hms hsl hes hel
  unfold vlCs at *
  go_enter Tryz.func12, Tryz.ntmps12
  go_upto_region 1 with fail
  obtain ⟨wb, hwb⟩ : ∃ wb, wb = w.heap.size := ⟨_, rfl⟩
  refine name_world (fun w1 => Blk w1 wb 30 #[.int .u64 (l.term : Int), .int .i64 l.vote, .int .u64 (l.si : Int), .int .u64 (l.st : Int), .slice As ms cs, .slice Ae m ce] ∧ Below w.heap.size w w1 ∧ wb < w1.heap.size) ⟨by rw [hwb]; exact HKB.out, HAL.out, by rw [hwb]; simp⟩ ?_
  rintro w1 ⟨hb1, hB1, hlt1⟩
  rw [← hwb]
  have HWB := Lib.hid hwb
  clear HKB HAL hwb
  have c0 : w1.cell? ⟨wb, 0, none⟩ = some (.int .u64 (l.term : Int)) := hb1.cell 0
  have c1 : w1.cell? ⟨wb, 1, none⟩ = some (.int .i64 l.vote) := hb1.cell 1
  have c2 : w1.cell? ⟨wb, 2, none⟩ = some (.int .u64 (l.si : Int)) := hb1.cell 2
  have c3 : w1.cell? ⟨wb, 3, none⟩ = some (.int .u64 (l.st : Int)) := hb1.cell 3
  have c4 : w1.cell? ⟨wb, 4, none⟩ = some (.slice As ms cs) := hb1.cell 4
  obtain ⟨b1, h1⟩ : ∃ b : Bool, decide (l.term < l.st) = b := ⟨_, rfl⟩
  obtain ⟨bx, hx⟩ : ∃ b : Bool, ((l.si : Int) == 0) = b := ⟨_, rfl⟩
  obtain ⟨bz, hz⟩ : ∃ b : Bool, ((l.st : Int) == 0) = b := ⟨_, rfl⟩
  obtain ⟨b3, h3⟩ : ∃ b : Bool, decide (4611686018427387904 < l.si) = b := ⟨_, rfl⟩
  obtain ⟨b4, h4⟩ : ∃ b : Bool, decide (32668 < ms) = b := ⟨_, rfl⟩
  obtain ⟨b5, h5⟩ : ∃ b : Bool, decide (l.vote < 0) = b := ⟨_, rfl⟩
  obtain ⟨b6, h6⟩ : ∃ b : Bool, decide (5 < l.vote) = b := ⟨_, rfl⟩
  obtain ⟨hb, hhb⟩ : ∃ hb : Bool, hb = (b5 || (b6 || (b3 || (b1 || ((bx != bz) || b4))))) := ⟨_, rfl⟩
  have hRV2 : rightV l = (!hb && rightE l.term (max l.st 1) l.si l.es) := by
    have e1 : decide (l.st ≤ l.term) = !b1 := by rw [← h1, ← decide_not]; congr 1; simp
    have e2 : decide (l.si = 0 ↔ l.st = 0) = !(bx != bz) := by
      have a1 : ((l.si : Int) == 0) = decide (l.si = 0) := by rw [Bool.eq_iff_iff]; simp
      have a2 : ((l.st : Int) == 0) = decide (l.st = 0) := by rw [Bool.eq_iff_iff]; simp
      rw [← hx, ← hz, a1, a2]
      by_cases p : l.si = 0 <;> by_cases q : l.st = 0 <;> simp [p, q]
    have e3 : decide (l.si ≤ 4611686018427387904) = !b3 := by rw [← h3, ← decide_not]; congr 1; simp
    have e4 : decide (ms ≤ 32668) = !b4 := by rw [← h4, ← decide_not]; congr 1; simp
    have e5 : decide (0 ≤ l.vote) = !b5 := by rw [← h5, ← decide_not]; congr 1; simp
    have e6 : decide (l.vote ≤ 5) = !b6 := by rw [← h6, ← decide_not]; congr 1; simp
    rw [HRV.out, hhb, e1, e2, e3, e4, e5, e6]
    cases b1 <;> cases bx <;> cases bz <;> cases b3 <;> cases b4 <;> cases b5 <;> cases b6 <;> simp
  have h3i : b3 = false → l.si ≤ 4611686018427387904 := fun h => by rw [h, decide_eq_false_iff_not] at h3; omega
  have h3h : hb = false → b3 = false := fun h => by rw [hhb] at h; revert h; cases b5 <;> cases b6 <;> cases b3 <;> simp
  have HB := Lib.hid hhb
  have HR2 := Lib.hid hRV2
  have H3 := Lib.hid (fun h => h3i (h3h h))
  have z3 : decide ((l.si : Int) > 4611686018427387904) = b3 := by rw [← h3]; congr 1; rw [eq_iff_iff]; omega
  have z4 : decide ((ms : Int) > 32668) = b4 := by rw [← h4]; congr 1; rw [eq_iff_iff]; omega
  have z1 : decide ((l.st : Int) > (l.term : Int)) = b1 := by rw [← h1]; congr 1; rw [eq_iff_iff]; omega
  have z6 : decide (l.vote > 5) = b6 := h6
  clear hhb hRV2 h3i h3h HRV
  go_cut [48] (fun v wx => v = .bool hb ∧ wx = w1)
  case first =>
    cases b5
    rotate_left
    · (go_wp2; go_meet; exact ⟨by rw [HB.out]; rfl, rfl⟩)
    cases b6
    rotate_left
    · (go_wp2; go_meet; exact ⟨by rw [HB.out]; rfl, rfl⟩)
    cases b3
    rotate_left
    · (go_wp2; go_meet; exact ⟨by rw [HB.out]; rfl, rfl⟩)
    cases b1
    rotate_left
    · (go_wp2; go_meet; exact ⟨by rw [HB.out]; rfl, rfl⟩)
    cases bx <;> cases bz
    rotate_left
    · (go_wp2; go_meet; exact ⟨by rw [HB.out]; rfl, rfl⟩)
    · (go_wp2; go_meet; exact ⟨by rw [HB.out]; rfl, rfl⟩)
    all_goals (cases b4 <;> (go_wp2; go_meet; exact ⟨by rw [HB.out]; rfl, rfl⟩))
  obtain ⟨rfl, hwx⟩ := hcut
  rw [hwx]
  clear hwx h1 hx hz h3 h4 h5 h6 z3 z4 z1 z6
  cases hb
  rotate_left
  · have HR3 := Lib.hid (show rightV l = false by rw [HR2.out]; rfl)
    go_wp2
    go_ret
    exact ⟨by rw [HR3.out]; rfl, hB1⟩
  have HR3 := Lib.hid (show rightV l = rightE l.term (max l.st 1) l.si l.es by rw [HR2.out]; simp)
  have hsi : l.si ≤ 4611686018427387904 := H3.out rfl
  have HB1 := Lib.hid hb1
  clear hb1
  go_upto_region 5 with fail
  clear c0 c1 c2 c3 c4
  go_loopw [3, 4] (fun vt vi wr => ∃ i t : Nat, i ≤ m ∧ vi = .int .i64 (i : Int) ∧ vt = .int .u64 (t : Int) ∧ Below w1.heap.size w1 wr ∧ Hid (rightE l.term (max l.st 1) l.si l.es = rightE l.term (max t 1) (l.si + i) (l.es.drop i))) (fun _ vi _ => m - (intOf vi).toNat)
  case atStart => exact ⟨0, l.st, by omega, rfl, rfl, Below.refl _ _, Lib.hid rfl⟩
  case round =>
    obtain ⟨i, t, hi, rfl, rfl, hb, HP⟩ := hrel
    have hbr := HB1.out.below hb hlt1
    have c0 : wr.cell? ⟨wb, 0, none⟩ = some (.int .u64 (l.term : Int)) := hbr.cell 0
    have c2 : wr.cell? ⟨wb, 2, none⟩ = some (.int .u64 (l.si : Int)) := hbr.cell 2
    have c5 : wr.cell? ⟨wb, 5, none⟩ = some (.slice Ae m ce) := hbr.cell 5
    have hltr : wb < wr.heap.size := hbr.lt
    by_cases hlt : i < m
    · have hil : i < l.es.length := by rw [← HM.out]; exact hlt
      obtain ⟨b5, off5, c5', cs5, hv5, _, ⟨vd, rfl, hvd, ht64, hi64⟩, hcell5⟩ := ((HES.out.below hB1).below hb).at_ hil
      rw [← HM.out] at hv5
      obtain ⟨rfl, rfl⟩ : Ae = some ⟨b5, off5, none⟩ ∧ ce = c5' := by simpa using hv5
      obtain ⟨A6, c6, rfl, hf6⟩ := hvd.form
      obtain ⟨e, he⟩ : ∃ e, e = l.es[i] := ⟨_, rfl⟩
      rw [← he] at hcell5 ht64 hi64 hf6
      have q0 : wr.cell? ⟨b5, off5 + i * 3, none⟩ = some (.int .u64 (e.term : Int)) := hcell5 0 _ rfl
      have q1 : wr.cell? ⟨b5, off5 + i * 3 + 1, none⟩ = some (.int .u64 (e.idx : Int)) := by have := hcell5 1 _ rfl; rwa [Nat.add_assoc]
      have q2 : wr.cell? ⟨b5, off5 + i * 3 + 2, none⟩ = some (.slice A6 e.data.length c6) := by have := hcell5 2 _ rfl; rwa [Nat.add_assoc]
      have hdr : l.es.drop i = e :: l.es.drop (i + 1) := by rw [he]; exact List.drop_eq_getElem_cons hil
      rw [hdr] at HP
      clear hcell5 hv5 hvd hf6 he hdr ht64 hi64
      go_upto_region 8 with fail
      obtain ⟨dl, hdl⟩ : ∃ dl, dl = e.data.length := ⟨_, rfl⟩
      rw [← hdl]
      have HDL := Lib.hid hdl
      obtain ⟨we, hwe⟩ : ∃ we, we = wr.heap.size := ⟨_, rfl⟩
      refine name_world (fun w2 => Blk w2 we 50 #[.int .u64 (e.term : Int), .int .u64 (e.idx : Int), .slice A6 dl c6] ∧ Below wr.heap.size wr w2) ⟨by rw [hwe, hdl]; exact Blk.new _ _ _, (Below.refl _ _).alloc (Nat.le_refl _) _⟩ ?_
      rintro w2 ⟨hbe, hB2⟩
      rw [← hwe]
      have HWE := Lib.hid hwe
      have d0 : w2.cell? ⟨wb, 0, none⟩ = some (.int .u64 (l.term : Int)) := (hB2.cell (p := ⟨wb, 0, none⟩) hltr).trans c0
      have d2 : w2.cell? ⟨wb, 2, none⟩ = some (.int .u64 (l.si : Int)) := (hB2.cell (p := ⟨wb, 2, none⟩) hltr).trans c2
      have e0 : w2.cell? ⟨we, 0, none⟩ = some (.int .u64 (e.term : Int)) := hbe.cell 0
      have e1 : w2.cell? ⟨we, 1, none⟩ = some (.int .u64 (e.idx : Int)) := hbe.cell 1
      have e2 : w2.cell? ⟨we, 2, none⟩ = some (.slice A6 dl c6) := hbe.cell 2
      have hB3 := hb.trans (hB2.mono hb.size)
      clear q0 q1 q2 c0 c2 c5 hbe hbr hdl hwe
      have hR : rightE l.term (max t 1) (l.si + i) (e :: l.es.drop (i + 1)) = (e.idx == l.si + i + 1 && (decide (max t 1 ≤ e.term) && (decide (e.term ≤ l.term) && (decide (dl ≤ 32668) && rightE l.term e.term (l.si + i + 1) (l.es.drop (i + 1)))))) := by rw [HDL.out]; rfl
      have HR := Lib.hid (HP.out.trans hR)
      clear HP hR
      by_cases h1 : e.idx = l.si + i + 1
      · have z1 : ((e.idx : Int) != (l.si : Int) + (i : Int) + 1) = false := by rw [bne_eq_false_iff_eq]; omega
        have HH1 := Lib.hid h1
        clear h1
        by_cases h2 : t ≤ e.term
        · have z2 : decide (e.term < t) = false := decide_eq_false (by omega)
          by_cases h0 : e.term = 0
          · have z0 : ((e.term : Int) == 0) = true := by rw [beq_iff_eq]; omega
            have z0' : decide (e.term = 0) = true := decide_eq_true h0
            have HR2 := Lib.hid (show rightE l.term (max l.st 1) l.si l.es = false by rw [HR.out, decide_eq_false (show ¬ max t 1 ≤ e.term by omega)]; simp)
            clear HR HH1 h2 h0
            go_wp2
            go_ret
            exact ⟨by rw [HR3.out, HR2.out]; rfl, hB1.trans (hB3.mono hB1.size)⟩
          · have z0 : ((e.term : Int) == 0) = false := by rw [beq_eq_false_iff_ne]; omega
            have z0' : decide (e.term = 0) = false := decide_eq_false h0
            by_cases h3 : e.term ≤ l.term
            · have z3 : decide (l.term < e.term) = false := decide_eq_false (by omega)
              by_cases h4 : dl ≤ 32668
              · have z4 : decide ((dl : Int) > 32668) = false := decide_eq_false (by omega)
                have z5 : decide (32668 < dl) = false := decide_eq_false (by omega)
                have HR2 := Lib.hid (show rightE l.term (max l.st 1) l.si l.es = rightE l.term (max e.term 1) (l.si + (i + 1)) (l.es.drop (i + 1)) by
                  rw [HR.out, HH1.out, decide_eq_true (show max t 1 ≤ e.term by omega), decide_eq_true h3, decide_eq_true h4, ← Nat.add_assoc, show max e.term 1 = e.term by omega]
                  simp)
                clear HR HH1 h2 h3 h4 h0
                go_wp2
                go_roundw
                case rel => exact ⟨i + 1, e.term, by omega, by go_num, rfl, hB3, HR2⟩
                case measure => simp [intOf]; omega
              · have z4 : decide ((dl : Int) > 32668) = true := decide_eq_true (by omega)
                have z5 : decide (32668 < dl) = true := decide_eq_true (by omega)
                have HR2 := Lib.hid (show rightE l.term (max l.st 1) l.si l.es = false by rw [HR.out, decide_eq_false h4]; simp)
                clear HR HH1 h2 h3 h4 h0
                go_wp2
                go_ret
                exact ⟨by rw [HR3.out, HR2.out]; rfl, hB1.trans (hB3.mono hB1.size)⟩
            · have z3 : decide (l.term < e.term) = true := decide_eq_true (by omega)
              have HR2 := Lib.hid (show rightE l.term (max l.st 1) l.si l.es = false by rw [HR.out, decide_eq_false h3]; simp)
              clear HR HH1 h2 h3 h0
              go_wp2
              go_ret
              exact ⟨by rw [HR3.out, HR2.out]; rfl, hB1.trans (hB3.mono hB1.size)⟩
        · have z2 : decide (e.term < t) = true := decide_eq_true (by omega)
          have HR2 := Lib.hid (show rightE l.term (max l.st 1) l.si l.es = false by rw [HR.out, decide_eq_false (show ¬ max t 1 ≤ e.term by omega)]; simp)
          clear HR HH1 h2
          go_wp2
          go_ret
          exact ⟨by rw [HR3.out, HR2.out]; rfl, hB1.trans (hB3.mono hB1.size)⟩
      · have z1 : ((e.idx : Int) != (l.si : Int) + (i : Int) + 1) = true := by rw [bne_iff_ne]; omega
        have HR2 := Lib.hid (show rightE l.term (max l.st 1) l.si l.es = false by
          rw [HR.out, show (e.idx == l.si + i + 1) = false from beq_eq_false_iff_ne.2 h1]
          rfl)
        clear HR h1
        go_wp2
        go_ret
        exact ⟨by rw [HR3.out, HR2.out]; rfl, hB1.trans (hB3.mono hB1.size)⟩
    · obtain rfl : i = m := by omega
      have HR2 := Lib.hid (show rightE l.term (max l.st 1) l.si l.es = true by rw [HP.out, List.drop_of_length_le (by rw [← HM.out]; omega)]; rfl)
      clear HP
      go_wp2
      go_ret
      exact ⟨by rw [HR3.out, HR2.out]; rfl, hB1.trans (hb.mono hB1.size)⟩
end Go.Proofs.YtnlhjhpikjmoaaaGreatDoor
