/- Contracts: help.In[int], ref12.Name, ref12.places. -/
import Derived.Test.YtikkknaofiafhaaR5
import Derived.Test.YtikkknaofiafhaaReg2
import Derived.Test.YtikkknaofiafhaaBlk
import Derived.Outline
import Derived.Deep.DeepCutAuto
namespace Go.Proofs.Ytikkknaofiafhaa
open Go.RowKit

/-- a yes just if p -/
def RetB (e : Ending) (p : Prop) : Prop := ∃ b, e = .returned (.bool b) ∧ (b = true ↔ p)
theorem RetB.mk {v : Value} {p : Prop} (b : Bool) (hv : v = .bool b) (h : b = true ↔ p) : RetB (.returned v) p := ⟨b, by rw [hv], h⟩
theorem RetB.yes {v : Value} {p : Prop} (hv : v = .bool true) (h : p) : RetB (.returned v) p := ⟨true, by rw [hv], by simp [h]⟩
theorem RetB.no {v : Value} {p : Prop} (hv : v = .bool false) (h : ¬ p) : RetB (.returned v) p := ⟨false, by rw [hv], by simp [h]⟩

set_option maxHeartbeats 800000 in
theorem inInt_any {ok : Nat → Prop} (v : Value) (l : List Int) (k : Int) (w : World) (hr : RSl rInt ok w v l) :
    Calls Try.prog 160 #[v, .int .i64 k] w fun e w' => RetB e (k ∈ l) ∧ w = w' := by
  obtain ⟨A, c, rfl, hc, hbd⟩ := hr.form
  have hbd' : l.length * 8 ≤ 140737488351232 := hbd
  clear hbd
  go_enter Try.func160, Try.ntmps160
  go_wp2
  go_loop [5] (fun i => ∃ n : Nat, n ≤ l.length ∧ i = .int .i64 (n : Int) ∧ Hid (k ∉ l.take n)) (fun i => l.length - (intOf i).toNat)
  case atStart => exact ⟨0, by omega, rfl, by simp [Hid]⟩
  case round =>
    obtain ⟨n, hn, rfl, HE⟩ := hrel
    by_cases hlt : n < l.length
    · obtain ⟨b1, off1, c1', cs1, hv1, _, ⟨rfl, _⟩, hcell1⟩ := hr.at_ hlt
      simp only [Value.slice.injEq, true_and] at hv1
      obtain ⟨rfl, rfl⟩ := hv1
      have p0 := hcell1 0 _ rfl
      simp only [Nat.add_zero, show rInt.sz = 1 from rfl, Nat.mul_one] at p0
      clear hcell1
      have HT : Hid (l.take (n + 1) = l.take n ++ [l[n]] ∧ l[n] ∈ l) := ⟨List.take_succ_eq_append_getElem hlt, List.getElem_mem hlt⟩
      obtain ⟨x, hx⟩ : ∃ x, x = l[n] := ⟨_, rfl⟩
      rw [← hx] at p0 HT
      clear hx
      by_cases h : x = k
      · have ht : (x == k) = true := by simp [h]
        have HK := Lib.hid h
        clear h
        go_wp2
        go_ret
        exact ⟨RetB.yes rfl (by rw [← HK.out]; exact HT.out.2), rfl⟩
      · have ht : (x == k) = false := by simpa using h
        have HK := Lib.hid h
        clear h
        go_wp2
        go_round
        case rel => exact ⟨n + 1, by omega, by go_num, by unfold Hid; rw [HT.out.1]; intro hm; rcases List.mem_append.1 hm with hm | hm; exact HE.out hm; simp at hm; exact HK.out hm.symm⟩
        case measure => simp [intOf]; omega
    · go_wp2
      go_ret
      exact ⟨RetB.no rfl (by have h := HE.out; rw [List.take_of_length_le (by omega)] at h; exact h), rfl⟩

def ChOk (m : Nat) : Prop := (97 ≤ m ∧ m ≤ 122) ∨ (48 ≤ m ∧ m ≤ 57) ∨ m = 95
def NameOk (s : ByteArray) : Prop := (∀ i (h : i < s.size), ChOk s[i].toNat) ∧ 1 ≤ s.size ∧ s.size ≤ 20

set_option maxHeartbeats 800000 in
theorem nameOk_any (s : ByteArray) (w : World) (hs : s.size ≤ 9223372036854775807) :
    Calls Try.prog 148 #[.string s] w fun e w' => RetB e (NameOk s) ∧ w = w' := by
  go_enter Try.func148, Try.ntmps148
  go_wp2
  go_loop [3, 4] (fun i _ => ∃ n : Nat, n ≤ s.size ∧ i = .int .i64 (n : Int) ∧ Hid (∀ i (h : i < s.size), i < n → ChOk s[i].toNat)) (fun i _ => s.size - (intOf i).toNat)
  case atStart => exact ⟨0, by omega, rfl, fun _ _ h => absurd h (by omega)⟩
  case round =>
    obtain ⟨n, hn, rfl, HE⟩ := hrel
    by_cases hlt : n < s.size
    · go_upto_region 5 with fail
      have HM : Hid (∃ m, m = s[n].toNat ∧ (ChOk m ↔ ChOk s[n].toNat)) := ⟨_, rfl, Iff.rfl⟩
      obtain ⟨m, hm, hch⟩ := HM.out
      rw [← hm]
      have HCH := Lib.hid hch
      clear hm hch HM
      rcases (by omega : (m < 48) ∨ (48 ≤ m ∧ m ≤ 57) ∨ (58 ≤ m ∧ m ≤ 94) ∨ (m = 95) ∨ (m = 96) ∨ (97 ≤ m ∧ m ≤ 122) ∨ (123 ≤ m)) with h | h | h | h | h | h | h
      · have g0 : decide (97 ≤ m) = false := decide_eq_false (by omega)
        have g1 : decide (97 ≤ (m : Int)) = false := decide_eq_false (by omega)
        have g2 : decide (m ≤ 122) = true := decide_eq_true (by omega)
        have g3 : decide ((m : Int) ≤ 122) = true := decide_eq_true (by omega)
        have g4 : decide (48 ≤ m) = false := decide_eq_false (by omega)
        have g5 : decide (48 ≤ (m : Int)) = false := decide_eq_false (by omega)
        have g6 : decide (m ≤ 57) = true := decide_eq_true (by omega)
        have g7 : decide ((m : Int) ≤ 57) = true := decide_eq_true (by omega)
        have ge : ((m : Int) == 95) = false := by simp; omega
        have HO : Hid (¬ ChOk m) := by unfold Hid ChOk; omega
        clear h
        go_wp2
        go_ret
        exact ⟨RetB.no rfl fun hN => HO.out (HCH.out.2 (hN.1 n hlt)), rfl⟩
      · have g0 : decide (97 ≤ m) = false := decide_eq_false (by omega)
        have g1 : decide (97 ≤ (m : Int)) = false := decide_eq_false (by omega)
        have g2 : decide (m ≤ 122) = true := decide_eq_true (by omega)
        have g3 : decide ((m : Int) ≤ 122) = true := decide_eq_true (by omega)
        have g4 : decide (48 ≤ m) = true := decide_eq_true (by omega)
        have g5 : decide (48 ≤ (m : Int)) = true := decide_eq_true (by omega)
        have g6 : decide (m ≤ 57) = true := decide_eq_true (by omega)
        have g7 : decide ((m : Int) ≤ 57) = true := decide_eq_true (by omega)
        have ge : ((m : Int) == 95) = false := by simp; omega
        have HO : Hid (ChOk m) := by unfold Hid ChOk; omega
        clear h
        go_wp2
        go_round
        case rel => exact ⟨n + 1, by omega, by go_num, fun i h hi => by
          rcases Nat.lt_or_ge i n with g | g
          · exact HE.out i h g
          · obtain rfl : i = n := by omega
            exact HCH.out.1 HO.out⟩
        case measure => simp [intOf]; omega
      · have g0 : decide (97 ≤ m) = false := decide_eq_false (by omega)
        have g1 : decide (97 ≤ (m : Int)) = false := decide_eq_false (by omega)
        have g2 : decide (m ≤ 122) = true := decide_eq_true (by omega)
        have g3 : decide ((m : Int) ≤ 122) = true := decide_eq_true (by omega)
        have g4 : decide (48 ≤ m) = true := decide_eq_true (by omega)
        have g5 : decide (48 ≤ (m : Int)) = true := decide_eq_true (by omega)
        have g6 : decide (m ≤ 57) = false := decide_eq_false (by omega)
        have g7 : decide ((m : Int) ≤ 57) = false := decide_eq_false (by omega)
        have ge : ((m : Int) == 95) = false := by simp; omega
        have HO : Hid (¬ ChOk m) := by unfold Hid ChOk; omega
        clear h
        go_wp2
        go_ret
        exact ⟨RetB.no rfl fun hN => HO.out (HCH.out.2 (hN.1 n hlt)), rfl⟩
      · have g0 : decide (97 ≤ m) = false := decide_eq_false (by omega)
        have g1 : decide (97 ≤ (m : Int)) = false := decide_eq_false (by omega)
        have g2 : decide (m ≤ 122) = true := decide_eq_true (by omega)
        have g3 : decide ((m : Int) ≤ 122) = true := decide_eq_true (by omega)
        have g4 : decide (48 ≤ m) = true := decide_eq_true (by omega)
        have g5 : decide (48 ≤ (m : Int)) = true := decide_eq_true (by omega)
        have g6 : decide (m ≤ 57) = false := decide_eq_false (by omega)
        have g7 : decide ((m : Int) ≤ 57) = false := decide_eq_false (by omega)
        have ge : ((m : Int) == 95) = true := by simp; omega
        have HO : Hid (ChOk m) := by unfold Hid ChOk; omega
        clear h
        go_wp2
        go_round
        case rel => exact ⟨n + 1, by omega, by go_num, fun i h hi => by
          rcases Nat.lt_or_ge i n with g | g
          · exact HE.out i h g
          · obtain rfl : i = n := by omega
            exact HCH.out.1 HO.out⟩
        case measure => simp [intOf]; omega
      · have g0 : decide (97 ≤ m) = false := decide_eq_false (by omega)
        have g1 : decide (97 ≤ (m : Int)) = false := decide_eq_false (by omega)
        have g2 : decide (m ≤ 122) = true := decide_eq_true (by omega)
        have g3 : decide ((m : Int) ≤ 122) = true := decide_eq_true (by omega)
        have g4 : decide (48 ≤ m) = true := decide_eq_true (by omega)
        have g5 : decide (48 ≤ (m : Int)) = true := decide_eq_true (by omega)
        have g6 : decide (m ≤ 57) = false := decide_eq_false (by omega)
        have g7 : decide ((m : Int) ≤ 57) = false := decide_eq_false (by omega)
        have ge : ((m : Int) == 95) = false := by simp; omega
        have HO : Hid (¬ ChOk m) := by unfold Hid ChOk; omega
        clear h
        go_wp2
        go_ret
        exact ⟨RetB.no rfl fun hN => HO.out (HCH.out.2 (hN.1 n hlt)), rfl⟩
      · have g0 : decide (97 ≤ m) = true := decide_eq_true (by omega)
        have g1 : decide (97 ≤ (m : Int)) = true := decide_eq_true (by omega)
        have g2 : decide (m ≤ 122) = true := decide_eq_true (by omega)
        have g3 : decide ((m : Int) ≤ 122) = true := decide_eq_true (by omega)
        have g4 : decide (48 ≤ m) = true := decide_eq_true (by omega)
        have g5 : decide (48 ≤ (m : Int)) = true := decide_eq_true (by omega)
        have g6 : decide (m ≤ 57) = false := decide_eq_false (by omega)
        have g7 : decide ((m : Int) ≤ 57) = false := decide_eq_false (by omega)
        have ge : ((m : Int) == 95) = false := by simp; omega
        have HO : Hid (ChOk m) := by unfold Hid ChOk; omega
        clear h
        go_wp2
        go_round
        case rel => exact ⟨n + 1, by omega, by go_num, fun i h hi => by
          rcases Nat.lt_or_ge i n with g | g
          · exact HE.out i h g
          · obtain rfl : i = n := by omega
            exact HCH.out.1 HO.out⟩
        case measure => simp [intOf]; omega
      · have g0 : decide (97 ≤ m) = true := decide_eq_true (by omega)
        have g1 : decide (97 ≤ (m : Int)) = true := decide_eq_true (by omega)
        have g2 : decide (m ≤ 122) = false := decide_eq_false (by omega)
        have g3 : decide ((m : Int) ≤ 122) = false := decide_eq_false (by omega)
        have g4 : decide (48 ≤ m) = true := decide_eq_true (by omega)
        have g5 : decide (48 ≤ (m : Int)) = true := decide_eq_true (by omega)
        have g6 : decide (m ≤ 57) = false := decide_eq_false (by omega)
        have g7 : decide ((m : Int) ≤ 57) = false := decide_eq_false (by omega)
        have ge : ((m : Int) == 95) = false := by simp; omega
        have HO : Hid (¬ ChOk m) := by unfold Hid ChOk; omega
        clear h
        go_wp2
        go_ret
        exact ⟨RetB.no rfl fun hN => HO.out (HCH.out.2 (hN.1 n hlt)), rfl⟩
    · have HA : Hid (∀ i (h : i < s.size), ChOk s[i].toNat) := fun i h => HE.out i h (by omega)
      by_cases h1 : 1 ≤ s.size
      · by_cases h2 : s.size ≤ 20
        · have d0 : decide ((1 : Int) ≤ s.size) = true := decide_eq_true (by omega)
          have d1 : decide (1 ≤ s.size) = true := decide_eq_true (by omega)
          have d2 : decide ((s.size : Int) ≤ 20) = true := decide_eq_true (by omega)
          have d3 : decide (s.size ≤ 20) = true := decide_eq_true (by omega)
          have HO := Lib.hid (And.intro HA.out (And.intro h1 h2))
          go_wp2
          go_ret
          exact ⟨RetB.yes rfl HO.out, rfl⟩
        · have d0 : decide ((1 : Int) ≤ s.size) = true := decide_eq_true (by omega)
          have d1 : decide (1 ≤ s.size) = true := decide_eq_true (by omega)
          have d2 : decide ((s.size : Int) ≤ 20) = false := decide_eq_false (by omega)
          have d3 : decide (s.size ≤ 20) = false := decide_eq_false (by omega)
          have HO : Hid (¬ NameOk s) := fun h => h2 h.2.2
          go_wp2
          go_ret
          exact ⟨RetB.no rfl HO.out, rfl⟩
      · have d0 : decide ((1 : Int) ≤ s.size) = false := decide_eq_false (by omega)
        have d1 : decide (1 ≤ s.size) = false := decide_eq_false (by omega)
        have HO : Hid (¬ NameOk s) := fun h => h1 h.2.1
        go_wp2
        go_ret
        exact ⟨RetB.no rfl HO.out, rfl⟩
theorem inInt_b {ok : Nat → Prop} (v : Value) (l : List Int) (k : Int) (b : Bool) (w : World) (hr : RSl rInt ok w v l) (h : b = true ↔ k ∈ l) :
    Calls Try.prog 160 #[v, .int .i64 k] w fun e w' => e = .returned (.bool b) ∧ Below w.heap.size w w' :=
  (inInt_any v l k w hr).mono fun e w' ⟨⟨b', he, hb⟩, hw⟩ => by
    subst hw
    refine ⟨?_, Below.refl _ _⟩
    rw [he, Bool.eq_iff_iff.2 (hb.trans h.symm)]
def PlacesOk (l : List Int) (n : Int) : Prop := (∀ i (h : i < l.length), 0 ≤ l[i] ∧ l[i] < n ∧ l[i] ∉ l.take i) ∧ 1 ≤ l.length ∧ l.length ≤ 6

set_option maxRecDepth 100000 in
set_option maxHeartbeats 1600000 in
theorem places_any {ok : Nat → Prop} (v : Value) (l : List Int) (n : Int) (w : World) (hr : RSl rInt ok w v l) :
    Calls Try.prog 149 #[v, .int .i64 n] w fun e w' => RetB e (PlacesOk l n) ∧ Below w.heap.size w w' := by
  obtain ⟨A, c, rfl, hc, hbd⟩ := hr.form
  have hbd' : l.length * 8 ≤ 140737488351232 := hbd
  clear hbd
  go_enter Try.func149, Try.ntmps149
  go_wp2
  go_loopw [5] (fun j wr => ∃ k : Nat, k ≤ l.length ∧ j = .int .i64 (k : Int) ∧ Below w.heap.size w wr ∧ w.heap.size ≤ wr.heap.size ∧ Hid (∀ i (h : i < l.length), i < k → 0 ≤ l[i] ∧ l[i] < n ∧ l[i] ∉ l.take i)) (fun j _ => l.length - (intOf j).toNat)
  case atStart => exact ⟨0, by omega, rfl, Below.refl _ _, Nat.le_refl _, fun _ _ h => absurd h (by omega)⟩
  case round =>
    obtain ⟨k, hk', rfl, hb, hz, HE⟩ := hrel
    by_cases hlt : k < l.length
    · have htk := (hr.below hb).take (k := k) (by omega)
      obtain ⟨b0, off0, c0', cs0, hv0, _, ⟨rfl, _⟩, hcell0⟩ := (hr.below hb).at_ hlt
      simp only [Value.slice.injEq, true_and] at hv0
      obtain ⟨rfl, rfl⟩ := hv0
      have r0 := hcell0 0 _ rfl
      simp only [Nat.add_zero, show rInt.sz = 1 from rfl, Nat.mul_one] at r0
      clear hcell0
      have NO : Hid (¬ (0 ≤ l[k] ∧ l[k] < n ∧ l[k] ∉ l.take k) → ¬ PlacesOk l n) := fun h hp => h (hp.1 k hlt)
      have YES : Hid ((0 ≤ l[k] ∧ l[k] < n ∧ l[k] ∉ l.take k) → ∀ i (h : i < l.length), i < k + 1 → 0 ≤ l[i] ∧ l[i] < n ∧ l[i] ∉ l.take i) := fun h i hi hik => by
        rcases Nat.lt_or_ge i k with g | g
        · exact HE.out i hi g
        · obtain rfl : i = k := by omega
          exact h
      obtain ⟨q, hq⟩ : ∃ q, q = l[k] := ⟨_, rfl⟩
      rw [← hq] at r0 NO YES
      clear hq
      have l0 := Later.cell r0
      have htl : ∀ s : Later wr, RSl rInt ok s.val (.slice (some ⟨b0, off0, none⟩) k c) (l.take k) := fun s => htk.below s.below
      have hkc : k ≤ c := by omega
      have BS : Hid (∀ s : Later wr, Below w.heap.size w s.val ∧ w.heap.size ≤ s.val.heap.size) := fun s => ⟨hb.trans (s.below.mono hz), by have := s.below.size; omega⟩
      by_cases h0 : 0 ≤ q
      · by_cases h1 : q < n
        · have d0 : decide (q < 0) = false := decide_eq_false (by omega)
          have d1 : decide (n ≤ q) = false := decide_eq_false (by omega)
          by_cases h2 : q ∈ l.take k
          · have NN := Lib.hid (NO.out (fun h => h.2.2 h2))
            have IN : Hid (∀ s : Later wr, Calls Try.prog 160 #[.slice (some ⟨b0, off0, none⟩) k c, .int .i64 q] s.val fun e w' => e = .returned (.bool true) ∧ Below s.val.heap.size s.val w') := fun s => inInt_b _ _ _ true _ (htl s) (by simp [h2])
            clear htl htk h0 h1 h2
            go_wp2
            refine wp_region_later (by kernel_rfl) (by kernel_rfl) ?_
            repeat (go_big_quiet_step ((go_at_call 160; exact Later.call (IN.out _))))
            refine wpQuiet_nil ?_
            intro s1
            go_wp2
            go_ret
            exact ⟨RetB.no rfl NN.out, (BS.out s1).1⟩
          · have YY := Lib.hid (YES.out ⟨h0, h1, h2⟩)
            have IN : Hid (∀ s : Later wr, Calls Try.prog 160 #[.slice (some ⟨b0, off0, none⟩) k c, .int .i64 q] s.val fun e w' => e = .returned (.bool false) ∧ Below s.val.heap.size s.val w') := fun s => inInt_b _ _ _ false _ (htl s) (by simp [h2])
            clear htl htk h0 h1 h2
            go_wp2
            refine wp_region_later (by kernel_rfl) (by kernel_rfl) ?_
            repeat (go_big_quiet_step ((go_at_call 160; exact Later.call (IN.out _))))
            refine wpQuiet_nil ?_
            intro s1
            have hbs := (BS.out s1).1
            have hzs := (BS.out s1).2
            go_wp2
            go_roundw
            case rel => exact ⟨k + 1, by omega, by go_num, hbs, hzs, YY.out⟩
            case measure => simp [intOf]; omega
        · have NN := Lib.hid (NO.out (fun h => h1 h.2.1))
          have d0 : decide (q < 0) = false := decide_eq_false (by omega)
          have d1 : decide (n ≤ q) = true := decide_eq_true (by omega)
          clear htl htk h0 h1
          go_wp2
          refine wp_region_later (by kernel_rfl) (by kernel_rfl) ?_
          repeat (go_big_quiet_step (fail))
          refine wpQuiet_nil ?_
          intro s1
          go_wp2
          go_ret
          exact ⟨RetB.no rfl NN.out, (BS.out s1).1⟩
      · have NN := Lib.hid (NO.out (fun h => h0 h.1))
        have d0 : decide (q < 0) = true := decide_eq_true (by omega)
        clear htl htk h0
        go_wp2
        refine wp_region_later (by kernel_rfl) (by kernel_rfl) ?_
        repeat (go_big_quiet_step (fail))
        refine wpQuiet_nil ?_
        intro s1
        go_wp2
        go_ret
        exact ⟨RetB.no rfl NN.out, (BS.out s1).1⟩
    · have HA : Hid (∀ i (h : i < l.length), 0 ≤ l[i] ∧ l[i] < n ∧ l[i] ∉ l.take i) := fun i h => HE.out i h (by omega)
      by_cases h1 : 1 ≤ l.length
      · by_cases h2 : l.length ≤ 6
        · have d0 : decide ((1 : Int) ≤ l.length) = true := decide_eq_true (by omega)
          have d1 : decide (1 ≤ l.length) = true := decide_eq_true (by omega)
          have d2 : decide ((l.length : Int) ≤ 6) = true := decide_eq_true (by omega)
          have d3 : decide (l.length ≤ 6) = true := decide_eq_true (by omega)
          have HO := Lib.hid (And.intro HA.out (And.intro h1 h2))
          go_wp2
          go_ret
          exact ⟨RetB.yes rfl HO.out, hb⟩
        · have d0 : decide ((1 : Int) ≤ l.length) = true := decide_eq_true (by omega)
          have d1 : decide (1 ≤ l.length) = true := decide_eq_true (by omega)
          have d2 : decide ((l.length : Int) ≤ 6) = false := decide_eq_false (by omega)
          have d3 : decide (l.length ≤ 6) = false := decide_eq_false (by omega)
          have HO : Hid (¬ PlacesOk l n) := fun h => h2 h.2.2
          go_wp2
          go_ret
          exact ⟨RetB.no rfl HO.out, hb⟩
      · have d0 : decide ((1 : Int) ≤ l.length) = false := decide_eq_false (by omega)
        have d1 : decide (1 ≤ l.length) = false := decide_eq_false (by omega)
        have HO : Hid (¬ PlacesOk l n) := fun h => h1 h.2.1
        go_wp2
        go_ret
        exact ⟨RetB.no rfl HO.out, hb⟩
end Go.Proofs.Ytikkknaofiafhaa
