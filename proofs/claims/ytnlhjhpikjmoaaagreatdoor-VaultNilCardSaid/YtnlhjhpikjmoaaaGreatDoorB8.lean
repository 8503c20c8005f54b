/- Contracts: armoirelaw07.small.
Contracts: wal.Sectors, vault.sectors, fault.New of OK, fault.Wrap of nil. -/
import Derived.Test.YtnlhjhpikjmoaaaGreatDoorB6
import Derived.Test.YtnlhjhpikjmoaaaGreatDoorV10
namespace Go.Proofs.YtnlhjhpikjmoaaaGreatDoor
open Go.RowKit

def datS (l : List VEnt) : Nat := (l.map fun e => e.data.length).sum
theorem datS_take (l : List VEnt) {i : Nat} (h : i < l.length) : datS (l.take (i + 1)) = datS (l.take i) + l[i].data.length := by
  unfold datS
  rw [List.take_succ_eq_append_getElem h, List.map_append, List.sum_append]
  simp
set_option maxRecDepth 100000 in
set_option maxHeartbeats 3200000 in
theorem small_any {ok : Nat → Prop} {w : World} {vsd ves : Value} {l : VLog} (h : VLm ok w vsd ves l) :
    Calls Tryz.prog 8 #[.agg (vlCs l vsd ves)] w fun e w' => (∃ b : Bool, e = .returned (.bool b) ∧ (b = true → l.es.length < 400 ∧ l.sd.length + datS l.es < 131072)) ∧ Below w.heap.size w w' := by
  obtain ⟨As, cs, rfl, _, hsl⟩ := h.sd.form
  obtain ⟨Ae, ce, rfl, hce, hel⟩ := h.es.form
  obtain ⟨m, hm⟩ : ∃ m, m = l.es.length := ⟨_, rfl⟩
  obtain ⟨ms, hms⟩ : ∃ ms, ms = l.sd.length := ⟨_, rfl⟩
  have hes := h.es
  rw [← hm] at hes hce hel
  have hm40 : m * 40 ≤ 140737488351232 := hel
  have hs1 : ms * 1 ≤ 140737488351232 := by rw [hms]; exact hsl
  rw [← hm, ← hms]
  have HM := Lib.hid hm
  have HES := Lib.hid hes
  have hkb := Blk.new w 30 (vlCs l (.slice As ms cs) (.slice Ae m ce))
  have hal : Below w.heap.size w (w.alloc (.cells (vlCs l (.slice As ms cs) (.slice Ae m ce)) 30)) := (Below.refl _ _).alloc (Nat.le_refl _) _
  have HKB := Lib.hid hkb
  have HAL := Lib.hid hal
  clear h hkb hal hm hms hsl hes hel
  unfold vlCs at *
  go_enter Tryz.func8, Tryz.ntmps8
  go_upto_region 3 with fail
  obtain ⟨wb, hwb⟩ : ∃ wb, wb = w.heap.size := ⟨_, rfl⟩
  refine name_world (fun w1 => Blk w1 wb 30 #[.int .u64 (l.term : Int), .int .i64 l.vote, .int .u64 (l.si : Int), .int .u64 (l.st : Int), .slice As ms cs, .slice Ae m ce] ∧ Below w.heap.size w w1 ∧ wb < w1.heap.size) ⟨by rw [hwb]; exact HKB.out, HAL.out, by rw [hwb]; simp⟩ ?_
  rintro w1 ⟨hb1, hB1, hlt1⟩
  rw [← hwb]
  have HWB := Lib.hid hwb
  have c5 : w1.cell? ⟨wb, 5, none⟩ = some (.slice Ae m ce) := hb1.cell 5
  have HB1 := Lib.hid hb1
  clear HKB HAL hwb hb1
  go_loopw [3, 4] (fun vs vi wr => ∃ i s : Nat, i ≤ m ∧ i ≤ 400 ∧ vi = .int .i64 (i : Int) ∧ vs = .int .i64 (s : Int) ∧ wr = w1 ∧ s ≤ (i + 1) * 140737488351232 ∧ Hid (s = ms + datS (l.es.take i))) (fun _ vi _ => 400 - (intOf vi).toNat)
  case atStart => exact ⟨0, ms, by omega, by omega, rfl, rfl, rfl, by omega, Lib.hid (by simp [datS])⟩
  case round =>
    obtain ⟨i, s, hi, hi4, rfl, rfl, hwr, hs, HP⟩ := hrel
    rw [hwr]
    clear hwr
    by_cases hin : i < m ∧ i < 400
    · obtain ⟨hlt, hlt4⟩ := hin
      have z1 : decide ((i : Int) < (m : Int)) = true := decide_eq_true (by omega)
      have z2 : decide ((i : Int) < 400) = true := decide_eq_true (by omega)
      have z3 : decide (i < m) = true := decide_eq_true hlt
      have z4 : decide (i < 400) = true := decide_eq_true hlt4
      have hil : i < l.es.length := by rw [← HM.out]; exact hlt
      obtain ⟨b5, off5, c5', cs5, hv5, _, ⟨vd, rfl, hvd, ht64, hi64⟩, hcell5⟩ := (HES.out.below hB1).at_ hil
      rw [← HM.out] at hv5
      obtain ⟨rfl, rfl⟩ : Ae = some ⟨b5, off5, none⟩ ∧ ce = c5' := by simpa using hv5
      obtain ⟨A6, c6, rfl, hf6, hf7⟩ := hvd.form
      obtain ⟨dl, hdl⟩ : ∃ dl, dl = l.es[i].data.length := ⟨_, rfl⟩
      rw [← hdl] at hcell5
      have hf8 : dl * 1 ≤ 140737488351232 := by rw [hdl]; exact hf7
      have q2 : w1.cell? ⟨b5, off5 + i * 3 + 2, none⟩ = some (.slice A6 dl c6) := by have := hcell5 2 _ rfl; rwa [Nat.add_assoc]
      have HQ := Lib.hid (show s + dl = ms + datS (l.es.take (i + 1)) by rw [datS_take _ hil, HP.out, hdl]; omega)
      clear hcell5 hv5 hvd hf6 hf7 hdl ht64 hi64 HP
      go_wp2
      go_roundw
      case rel => exact ⟨i + 1, s + dl, by omega, by omega, by go_num, by go_num, by first | rfl | trivial, by omega, HQ⟩
      case measure => simp [intOf]; omega
    · have hcond : (decide ((i : Int) < (m : Int)) = true ∧ decide ((i : Int) < 400) = false ∧ decide (i < m) = true ∧ decide (i < 400) = false ∧ 400 ≤ m) ∨ (decide ((i : Int) < (m : Int)) = false ∧ decide (i < m) = false ∧ i = m) := by
        by_cases h1 : i < m
        · exact .inl ⟨decide_eq_true (by omega), decide_eq_false (by omega), decide_eq_true h1, decide_eq_false (by omega), by omega⟩
        · exact .inr ⟨decide_eq_false (by omega), decide_eq_false h1, by omega⟩
      rcases hcond with ⟨z1, z2, z3, z4, h400⟩ | ⟨z1, z3, him⟩
      · have y1 : decide ((m : Int) < 400) = false := decide_eq_false (by omega)
        have y2 : decide (m < 400) = false := decide_eq_false (by omega)
        go_wp2
        go_ret
        exact ⟨⟨false, rfl, fun h => by cases h⟩, hB1⟩
      · by_cases hm4 : m < 400
        · have y1 : decide ((m : Int) < 400) = true := decide_eq_true (by omega)
          have y2 : decide (m < 400) = true := decide_eq_true hm4
          have HF := Lib.hid (show s = ms + datS l.es by rw [HP.out, List.take_of_length_le (by rw [← HM.out]; omega)])
          have HI := Lib.hid him
          clear HP him
          by_cases hs2 : s < 131072
          · have x1 : decide ((s : Int) < 131072) = true := decide_eq_true (by omega)
            have x2 : decide (s < 131072) = true := decide_eq_true hs2
            go_wp2
            go_ret
            exact ⟨⟨true, rfl, fun _ => ⟨hm4, by rw [← HF.out]; exact hs2⟩⟩, hB1⟩
          · have x1 : decide ((s : Int) < 131072) = false := decide_eq_false (by omega)
            have x2 : decide (s < 131072) = false := decide_eq_false hs2
            go_wp2
            go_ret
            exact ⟨⟨false, rfl, fun h => by cases h⟩, hB1⟩
        · have y1 : decide ((m : Int) < 400) = false := decide_eq_false (by omega)
          have y2 : decide (m < 400) = false := decide_eq_false hm4
          have HI := Lib.hid him
          clear him
          go_wp2
          go_ret
          exact ⟨⟨false, rfl, fun h => by cases h⟩, hB1⟩
end Go.Proofs.YtnlhjhpikjmoaaaGreatDoor

namespace Go.Proofs.YtnlhjhpikjmoaaaGreatDoor
open Go.RowKit

theorem sectorsW_any (n : Nat) (hn : n ≤ 1000000000) (w : World) : Calls Tryz.prog 72 #[.int .i64 (n : Int)] w fun e w' => e = .returned (.int .i64 (secN n : Int)) ∧ w' = w := by
  go_enter Tryz.func72, Tryz.ntmps72
  go_wp2_with fail
  refine (sectors_any n hn w).mono ?_
  rintro e w1 ⟨rfl, rfl⟩
  go_wp2
  go_ret
  exact ⟨rfl, rfl⟩
theorem secSum_tk (l : List (List UInt8)) {i : Nat} (h : i < l.length) : secSum (l.take (i + 1)) = secSum (l.take i) + secN l[i].length := by
  rw [List.take_succ_eq_append_getElem h, secSum_append]
  simp [secSum]
set_option maxRecDepth 100000 in
set_option maxHeartbeats 1600000 in
theorem vsectors_any {ok : Nat → Prop} (u : Value) (l : List (List UInt8)) (w : World) (hr : RSl rBs ok w u l) (hl : l.length ≤ 1000000) (hs : ∀ r ∈ l, r.length ≤ 32768) :
    Calls Tryz.prog 42 #[u] w fun e w' => e = .returned (.int .i64 (secSum l : Int)) ∧ w' = w := by
  obtain ⟨A, c, rfl, hc, hsl⟩ := hr.form
  obtain ⟨n, hn⟩ : ∃ n, n = l.length := ⟨_, rfl⟩
  rw [← hn] at hr hc hl hsl ⊢
  have HR := Lib.hid hr
  have HN := Lib.hid hn
  have HS := Lib.hid hs
  clear hr hn hsl hs
  go_enter Tryz.func42, Tryz.ntmps42
  go_upto_region 3 with fail
  go_loopw [3, 8] (fun vs vi wr => ∃ i s : Nat, i ≤ n ∧ vi = .int .i64 (i : Int) ∧ vs = .int .i64 (s : Int) ∧ s ≤ 1000 * i ∧ wr = w ∧ Hid (s = secSum (l.take i))) (fun _ vi _ => n - (intOf vi).toNat)
  case atStart => exact ⟨0, 0, by omega, rfl, rfl, by omega, rfl, Lib.hid rfl⟩
  case round =>
    obtain ⟨i, s, hi, rfl, rfl, hsb, hwr, HP⟩ := hrel
    rw [hwr]
    clear hwr
    by_cases hlt : i < n
    · have hil : i < l.length := by rw [← HN.out]; exact hlt
      obtain ⟨b5, off5, c5, cs5, hv5, _, ⟨v5, rfl, hr5⟩, hcell5⟩ := HR.out.at_ hil
      rw [← HN.out] at hv5
      obtain ⟨rfl, rfl⟩ : A = some ⟨b5, off5, none⟩ ∧ c = c5 := by simpa using hv5
      obtain ⟨A5, d5, rfl, hf5⟩ := hr5.form
      obtain ⟨k, hk⟩ : ∃ k, k = l[i].length := ⟨_, rfl⟩
      rw [← hk] at hcell5
      have q5 : w.cell? ⟨b5, off5 + i * 1, none⟩ = some (.slice A5 k d5) := hcell5 0 _ rfl
      have q6 : w.cell? ⟨b5, off5 + i, none⟩ = some (.slice A5 k d5) := by simpa using q5
      have hk3 : k ≤ 32768 := by rw [hk]; exact HS.out _ (List.getElem_mem _)
      have hsec : secN k ≤ 1000 := by unfold secN; omega
      have HQ := Lib.hid (show s + secN k = secSum (l.take (i + 1)) by rw [secSum_tk _ hil, HP.out, hk])
      have HC := Lib.hid (sectorsW_any k (by omega) w)
      obtain ⟨sk, hsk⟩ : ∃ sk, sk = secN k := ⟨_, rfl⟩
      rw [← hsk] at HQ HC hsec
      clear hcell5 hv5 hf5 hr5 hk hsk HP
      go_wp2_with fail
      refine HC.out.mono ?_
      rintro e w1 ⟨rfl, rfl⟩
      go_wp2
      go_roundw
      case rel => exact ⟨i + 1, s + sk, by omega, by go_num, by go_num, by omega, by first | rfl | trivial, HQ⟩
      case measure => simp [intOf]; omega
    · obtain rfl : i = n := by omega
      have HQ := Lib.hid (show s = secSum l by rw [HP.out, List.take_of_length_le (by rw [← HN.out]; omega)])
      clear HP
      go_wp2
      go_ret
      exact ⟨by rw [HQ.out]; rfl, rfl⟩
theorem faultNew_ok (v : Value) (w : World) : Calls Tryz.prog 45 #[.int .i64 0, v] w fun e w' => e = .returned .nilIface ∧ w' = w := by
  go_enter Tryz.func45, Tryz.ntmps45
  go_wp2
  go_ret
  exact ⟨rfl, rfl⟩
end Go.Proofs.YtnlhjhpikjmoaaaGreatDoor
