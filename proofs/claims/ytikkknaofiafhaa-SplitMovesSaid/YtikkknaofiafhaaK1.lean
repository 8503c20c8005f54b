/- Contracts: help.In[int], ref12.Name, ref12.places.
Contract: ref12.TableRight.
Catalogs as data; contract: ref12.ByID. -/
import Derived.Test.YtikkknaofiafhaaR3
import Derived.Test.YtikkknaofiafhaaReg
import Derived.Test.YtikkknaofiafhaaDat
import Derived.Outline
import Derived.Deep.DeepCutAuto
import Derived.Test.YtikkknaofiafhaaR7
namespace Go.Proofs.Ytikkknaofiafhaa
open Go.RowKit

/-- a yes just if p -/
def RetB (e : Ending) (p : Prop) : Prop := ∃ b, e = .returned (.bool b) ∧ (b = true ↔ p)
theorem RetB.mk {v : Value} {p : Prop} (b : Bool) (hv : v = .bool b) (h : b = true ↔ p) : RetB (.returned v) p := ⟨b, by rw [hv], h⟩
theorem RetB.yes {v : Value} {p : Prop} (hv : v = .bool true) (h : p) : RetB (.returned v) p := ⟨true, by rw [hv], by simp [h]⟩
theorem RetB.no {v : Value} {p : Prop} (hv : v = .bool false) (h : ¬ p) : RetB (.returned v) p := ⟨false, by rw [hv], by simp [h]⟩

set_option maxHeartbeats 800000 in
theorem inInt_any {ok : Nat → Prop} (v : Value) (l : List Int) (k : Int) (w : World) (hr : RSl rInt ok w v l) :
    Calls Try.prog 160 #[v, .int .i64 k] w fun e w' => RetB e (k ∈ l) ∧ w = w' := by
  obtain ⟨A, c, rfl, hc, hbd⟩ := hr.form
  have hbd' : l.length * 8 ≤ 140737488351232 := hbd
  clear hbd
  go_enter Try.func160, Try.ntmps160
  go_wp2
  go_loop [5] (fun i => ∃ n : Nat, n ≤ l.length ∧ i = .int .i64 (n : Int) ∧ Hid (k ∉ l.take n)) (fun i => l.length - (intOf i).toNat)
  case atStart => exact ⟨0, by omega, rfl, by simp [Hid]⟩
  case round =>
    obtain ⟨n, hn, rfl, HE⟩ := hrel
    by_cases hlt : n < l.length
    · obtain ⟨b1, off1, c1', cs1, hv1, _, ⟨rfl, _⟩, hcell1⟩ := hr.at_ hlt
      simp only [Value.slice.injEq, true_and] at hv1
      obtain ⟨rfl, rfl⟩ := hv1
      have p0 := hcell1 0 _ rfl
      simp only [Nat.add_zero, show rInt.sz = 1 from rfl, Nat.mul_one] at p0
      clear hcell1
      have HT : Hid (l.take (n + 1) = l.take n ++ [l[n]] ∧ l[n] ∈ l) := ⟨List.take_succ_eq_append_getElem hlt, List.getElem_mem hlt⟩
      obtain ⟨x, hx⟩ : ∃ x, x = l[n] := ⟨_, rfl⟩
      rw [← hx] at p0 HT
      clear hx
      by_cases h : x = k
      · have ht : (x == k) = true := by simp [h]
        have HK := Lib.hid h
        clear h
        go_wp2
        go_ret
        exact ⟨RetB.yes rfl (by rw [← HK.out]; exact HT.out.2), rfl⟩
      · have ht : (x == k) = false := by simpa using h
        have HK := Lib.hid h
        clear h
        go_wp2
        go_round
        case rel => exact ⟨n + 1, by omega, by go_num, by unfold Hid; rw [HT.out.1]; intro hm; rcases List.mem_append.1 hm with hm | hm; exact HE.out hm; simp at hm; exact HK.out hm.symm⟩
        case measure => simp [intOf]; omega
    · go_wp2
      go_ret
      exact ⟨RetB.no rfl (by have h := HE.out; rw [List.take_of_length_le (by omega)] at h; exact h), rfl⟩

def ChOk (m : Nat) : Prop := (97 ≤ m ∧ m ≤ 122) ∨ (48 ≤ m ∧ m ≤ 57) ∨ m = 95
def NameOk (s : ByteArray) : Prop := (∀ i (h : i < s.size), ChOk s[i].toNat) ∧ 1 ≤ s.size ∧ s.size ≤ 20

set_option maxHeartbeats 800000 in
theorem nameOk_any (s : ByteArray) (w : World) (hs : s.size ≤ 9223372036854775807) :
    Calls Try.prog 148 #[.string s] w fun e w' => RetB e (NameOk s) ∧ w = w' := by
  go_enter Try.func148, Try.ntmps148
  go_wp2
  go_loop [3, 4] (fun i _ => ∃ n : Nat, n ≤ s.size ∧ i = .int .i64 (n : Int) ∧ Hid (∀ i (h : i < s.size), i < n → ChOk s[i].toNat)) (fun i _ => s.size - (intOf i).toNat)
  case atStart => exact ⟨0, by omega, rfl, fun _ _ h => absurd h (by omega)⟩
  case round =>
    obtain ⟨n, hn, rfl, HE⟩ := hrel
    by_cases hlt : n < s.size
    · go_upto_region 5 with fail
      have HM : Hid (∃ m, m = s[n].toNat ∧ (ChOk m ↔ ChOk s[n].toNat)) := ⟨_, rfl, Iff.rfl⟩
      obtain ⟨m, hm, hch⟩ := HM.out
      rw [← hm]
      have HCH := Lib.hid hch
      clear hm hch HM
      rcases (by omega : (m < 48) ∨ (48 ≤ m ∧ m ≤ 57) ∨ (58 ≤ m ∧ m ≤ 94) ∨ (m = 95) ∨ (m = 96) ∨ (97 ≤ m ∧ m ≤ 122) ∨ (123 ≤ m)) with h | h | h | h | h | h | h
      · have g0 : decide (97 ≤ m) = false := decide_eq_false (by omega)
        have g1 : decide (97 ≤ (m : Int)) = false := decide_eq_false (by omega)
        have g2 : decide (m ≤ 122) = true := decide_eq_true (by omega)
        have g3 : decide ((m : Int) ≤ 122) = true := decide_eq_true (by omega)
        have g4 : decide (48 ≤ m) = false := decide_eq_false (by omega)
        have g5 : decide (48 ≤ (m : Int)) = false := decide_eq_false (by omega)
        have g6 : decide (m ≤ 57) = true := decide_eq_true (by omega)
        have g7 : decide ((m : Int) ≤ 57) = true := decide_eq_true (by omega)
        have ge : ((m : Int) == 95) = false := by simp; omega
        have HO : Hid (¬ ChOk m) := by unfold Hid ChOk; omega
        clear h
        go_wp2
        go_ret
        exact ⟨RetB.no rfl fun hN => HO.out (HCH.out.2 (hN.1 n hlt)), rfl⟩
      · have g0 : decide (97 ≤ m) = false := decide_eq_false (by omega)
        have g1 : decide (97 ≤ (m : Int)) = false := decide_eq_false (by omega)
        have g2 : decide (m ≤ 122) = true := decide_eq_true (by omega)
        have g3 : decide ((m : Int) ≤ 122) = true := decide_eq_true (by omega)
        have g4 : decide (48 ≤ m) = true := decide_eq_true (by omega)
        have g5 : decide (48 ≤ (m : Int)) = true := decide_eq_true (by omega)
        have g6 : decide (m ≤ 57) = true := decide_eq_true (by omega)
        have g7 : decide ((m : Int) ≤ 57) = true := decide_eq_true (by omega)
        have ge : ((m : Int) == 95) = false := by simp; omega
        have HO : Hid (ChOk m) := by unfold Hid ChOk; omega
        clear h
        go_wp2
        go_round
        case rel => exact ⟨n + 1, by omega, by go_num, fun i h hi => by
          rcases Nat.lt_or_ge i n with g | g
          · exact HE.out i h g
          · obtain rfl : i = n := by omega
            exact HCH.out.1 HO.out⟩
        case measure => simp [intOf]; omega
      · have g0 : decide (97 ≤ m) = false := decide_eq_false (by omega)
        have g1 : decide (97 ≤ (m : Int)) = false := decide_eq_false (by omega)
        have g2 : decide (m ≤ 122) = true := decide_eq_true (by omega)
        have g3 : decide ((m : Int) ≤ 122) = true := decide_eq_true (by omega)
        have g4 : decide (48 ≤ m) = true := decide_eq_true (by omega)
        have g5 : decide (48 ≤ (m : Int)) = true := decide_eq_true (by omega)
        have g6 : decide (m ≤ 57) = false := decide_eq_false (by omega)
        have g7 : decide ((m : Int) ≤ 57) = false := decide_eq_false (by omega)
        have ge : ((m : Int) == 95) = false := by simp; omega
        have HO : Hid (¬ ChOk m) := by unfold Hid ChOk; omega
        clear h
        go_wp2
        go_ret
        exact ⟨RetB.no rfl fun hN => HO.out (HCH.out.2 (hN.1 n hlt)), rfl⟩
      · have g0 : decide (97 ≤ m) = false := decide_eq_false (by omega)
        have g1 : decide (97 ≤ (m : Int)) = false := decide_eq_false (by omega)
        have g2 : decide (m ≤ 122) = true := decide_eq_true (by omega)
        have g3 : decide ((m : Int) ≤ 122) = true := decide_eq_true (by omega)
        have g4 : decide (48 ≤ m) = true := decide_eq_true (by omega)
        have g5 : decide (48 ≤ (m : Int)) = true := decide_eq_true (by omega)
        have g6 : decide (m ≤ 57) = false := decide_eq_false (by omega)
        have g7 : decide ((m : Int) ≤ 57) = false := decide_eq_false (by omega)
        have ge : ((m : Int) == 95) = true := by simp; omega
        have HO : Hid (ChOk m) := by unfold Hid ChOk; omega
        clear h
        go_wp2
        go_round
        case rel => exact ⟨n + 1, by omega, by go_num, fun i h hi => by
          rcases Nat.lt_or_ge i n with g | g
          · exact HE.out i h g
          · obtain rfl : i = n := by omega
            exact HCH.out.1 HO.out⟩
        case measure => simp [intOf]; omega
      · have g0 : decide (97 ≤ m) = false := decide_eq_false (by omega)
        have g1 : decide (97 ≤ (m : Int)) = false := decide_eq_false (by omega)
        have g2 : decide (m ≤ 122) = true := decide_eq_true (by omega)
        have g3 : decide ((m : Int) ≤ 122) = true := decide_eq_true (by omega)
        have g4 : decide (48 ≤ m) = true := decide_eq_true (by omega)
        have g5 : decide (48 ≤ (m : Int)) = true := decide_eq_true (by omega)
        have g6 : decide (m ≤ 57) = false := decide_eq_false (by omega)
        have g7 : decide ((m : Int) ≤ 57) = false := decide_eq_false (by omega)
        have ge : ((m : Int) == 95) = false := by simp; omega
        have HO : Hid (¬ ChOk m) := by unfold Hid ChOk; omega
        clear h
        go_wp2
        go_ret
        exact ⟨RetB.no rfl fun hN => HO.out (HCH.out.2 (hN.1 n hlt)), rfl⟩
      · have g0 : decide (97 ≤ m) = true := decide_eq_true (by omega)
        have g1 : decide (97 ≤ (m : Int)) = true := decide_eq_true (by omega)
        have g2 : decide (m ≤ 122) = true := decide_eq_true (by omega)
        have g3 : decide ((m : Int) ≤ 122) = true := decide_eq_true (by omega)
        have g4 : decide (48 ≤ m) = true := decide_eq_true (by omega)
        have g5 : decide (48 ≤ (m : Int)) = true := decide_eq_true (by omega)
        have g6 : decide (m ≤ 57) = false := decide_eq_false (by omega)
        have g7 : decide ((m : Int) ≤ 57) = false := decide_eq_false (by omega)
        have ge : ((m : Int) == 95) = false := by simp; omega
        have HO : Hid (ChOk m) := by unfold Hid ChOk; omega
        clear h
        go_wp2
        go_round
        case rel => exact ⟨n + 1, by omega, by go_num, fun i h hi => by
          rcases Nat.lt_or_ge i n with g | g
          · exact HE.out i h g
          · obtain rfl : i = n := by omega
            exact HCH.out.1 HO.out⟩
        case measure => simp [intOf]; omega
      · have g0 : decide (97 ≤ m) = true := decide_eq_true (by omega)
        have g1 : decide (97 ≤ (m : Int)) = true := decide_eq_true (by omega)
        have g2 : decide (m ≤ 122) = false := decide_eq_false (by omega)
        have g3 : decide ((m : Int) ≤ 122) = false := decide_eq_false (by omega)
        have g4 : decide (48 ≤ m) = true := decide_eq_true (by omega)
        have g5 : decide (48 ≤ (m : Int)) = true := decide_eq_true (by omega)
        have g6 : decide (m ≤ 57) = false := decide_eq_false (by omega)
        have g7 : decide ((m : Int) ≤ 57) = false := decide_eq_false (by omega)
        have ge : ((m : Int) == 95) = false := by simp; omega
        have HO : Hid (¬ ChOk m) := by unfold Hid ChOk; omega
        clear h
        go_wp2
        go_ret
        exact ⟨RetB.no rfl fun hN => HO.out (HCH.out.2 (hN.1 n hlt)), rfl⟩
    · have HA : Hid (∀ i (h : i < s.size), ChOk s[i].toNat) := fun i h => HE.out i h (by omega)
      by_cases h1 : 1 ≤ s.size
      · by_cases h2 : s.size ≤ 20
        · have d0 : decide ((1 : Int) ≤ s.size) = true := decide_eq_true (by omega)
          have d1 : decide (1 ≤ s.size) = true := decide_eq_true (by omega)
          have d2 : decide ((s.size : Int) ≤ 20) = true := decide_eq_true (by omega)
          have d3 : decide (s.size ≤ 20) = true := decide_eq_true (by omega)
          have HO := Lib.hid (And.intro HA.out (And.intro h1 h2))
          go_wp2
          go_ret
          exact ⟨RetB.yes rfl HO.out, rfl⟩
        · have d0 : decide ((1 : Int) ≤ s.size) = true := decide_eq_true (by omega)
          have d1 : decide (1 ≤ s.size) = true := decide_eq_true (by omega)
          have d2 : decide ((s.size : Int) ≤ 20) = false := decide_eq_false (by omega)
          have d3 : decide (s.size ≤ 20) = false := decide_eq_false (by omega)
          have HO : Hid (¬ NameOk s) := fun h => h2 h.2.2
          go_wp2
          go_ret
          exact ⟨RetB.no rfl HO.out, rfl⟩
      · have d0 : decide ((1 : Int) ≤ s.size) = false := decide_eq_false (by omega)
        have d1 : decide (1 ≤ s.size) = false := decide_eq_false (by omega)
        have HO : Hid (¬ NameOk s) := fun h => h1 h.2.1
        go_wp2
        go_ret
        exact ⟨RetB.no rfl HO.out, rfl⟩
theorem inInt_b {ok : Nat → Prop} (v : Value) (l : List Int) (k : Int) (b : Bool) (w : World) (hr : RSl rInt ok w v l) (h : b = true ↔ k ∈ l) :
    Calls Try.prog 160 #[v, .int .i64 k] w fun e w' => e = .returned (.bool b) ∧ Below w.heap.size w w' :=
  (inInt_any v l k w hr).mono fun e w' ⟨⟨b', he, hb⟩, hw⟩ => by
    subst hw
    refine ⟨?_, Below.refl _ _⟩
    rw [he, Bool.eq_iff_iff.2 (hb.trans h.symm)]
def PlacesOk (l : List Int) (n : Int) : Prop := (∀ i (h : i < l.length), 0 ≤ l[i] ∧ l[i] < n ∧ l[i] ∉ l.take i) ∧ 1 ≤ l.length ∧ l.length ≤ 6

set_option maxRecDepth 100000 in
set_option maxHeartbeats 1600000 in
theorem places_any {ok : Nat → Prop} (v : Value) (l : List Int) (n : Int) (w : World) (hr : RSl rInt ok w v l) :
    Calls Try.prog 149 #[v, .int .i64 n] w fun e w' => RetB e (PlacesOk l n) ∧ Below w.heap.size w w' := by
  obtain ⟨A, c, rfl, hc, hbd⟩ := hr.form
  have hbd' : l.length * 8 ≤ 140737488351232 := hbd
  clear hbd
  go_enter Try.func149, Try.ntmps149
  go_wp2
  go_loopw [5] (fun j wr => ∃ k : Nat, k ≤ l.length ∧ j = .int .i64 (k : Int) ∧ Below w.heap.size w wr ∧ w.heap.size ≤ wr.heap.size ∧ Hid (∀ i (h : i < l.length), i < k → 0 ≤ l[i] ∧ l[i] < n ∧ l[i] ∉ l.take i)) (fun j _ => l.length - (intOf j).toNat)
  case atStart => exact ⟨0, by omega, rfl, Below.refl _ _, Nat.le_refl _, fun _ _ h => absurd h (by omega)⟩
  case round =>
    obtain ⟨k, hk', rfl, hb, hz, HE⟩ := hrel
    by_cases hlt : k < l.length
    · have htk := (hr.below hb).take (k := k) (by omega)
      obtain ⟨b0, off0, c0', cs0, hv0, _, ⟨rfl, _⟩, hcell0⟩ := (hr.below hb).at_ hlt
      simp only [Value.slice.injEq, true_and] at hv0
      obtain ⟨rfl, rfl⟩ := hv0
      have r0 := hcell0 0 _ rfl
      simp only [Nat.add_zero, show rInt.sz = 1 from rfl, Nat.mul_one] at r0
      clear hcell0
      have NO : Hid (¬ (0 ≤ l[k] ∧ l[k] < n ∧ l[k] ∉ l.take k) → ¬ PlacesOk l n) := fun h hp => h (hp.1 k hlt)
      have YES : Hid ((0 ≤ l[k] ∧ l[k] < n ∧ l[k] ∉ l.take k) → ∀ i (h : i < l.length), i < k + 1 → 0 ≤ l[i] ∧ l[i] < n ∧ l[i] ∉ l.take i) := fun h i hi hik => by
        rcases Nat.lt_or_ge i k with g | g
        · exact HE.out i hi g
        · obtain rfl : i = k := by omega
          exact h
      obtain ⟨q, hq⟩ : ∃ q, q = l[k] := ⟨_, rfl⟩
      rw [← hq] at r0 NO YES
      clear hq
      have l0 := Later.cell r0
      have htl : ∀ s : Later wr, RSl rInt ok s.val (.slice (some ⟨b0, off0, none⟩) k c) (l.take k) := fun s => htk.below s.below
      have hkc : k ≤ c := by omega
      have BS : Hid (∀ s : Later wr, Below w.heap.size w s.val ∧ w.heap.size ≤ s.val.heap.size) := fun s => ⟨hb.trans (s.below.mono hz), by have := s.below.size; omega⟩
      by_cases h0 : 0 ≤ q
      · by_cases h1 : q < n
        · have d0 : decide (q < 0) = false := decide_eq_false (by omega)
          have d1 : decide (n ≤ q) = false := decide_eq_false (by omega)
          by_cases h2 : q ∈ l.take k
          · have NN := Lib.hid (NO.out (fun h => h.2.2 h2))
            have IN : Hid (∀ s : Later wr, Calls Try.prog 160 #[.slice (some ⟨b0, off0, none⟩) k c, .int .i64 q] s.val fun e w' => e = .returned (.bool true) ∧ Below s.val.heap.size s.val w') := fun s => inInt_b _ _ _ true _ (htl s) (by simp [h2])
            clear htl htk h0 h1 h2
            go_wp2
            refine wp_region_later (by kernel_rfl) (by kernel_rfl) ?_
            repeat (go_big_quiet_step ((go_at_call 160; exact Later.call (IN.out _))))
            refine wpQuiet_nil ?_
            intro s1
            go_wp2
            go_ret
            exact ⟨RetB.no rfl NN.out, (BS.out s1).1⟩
          · have YY := Lib.hid (YES.out ⟨h0, h1, h2⟩)
            have IN : Hid (∀ s : Later wr, Calls Try.prog 160 #[.slice (some ⟨b0, off0, none⟩) k c, .int .i64 q] s.val fun e w' => e = .returned (.bool false) ∧ Below s.val.heap.size s.val w') := fun s => inInt_b _ _ _ false _ (htl s) (by simp [h2])
            clear htl htk h0 h1 h2
            go_wp2
            refine wp_region_later (by kernel_rfl) (by kernel_rfl) ?_
            repeat (go_big_quiet_step ((go_at_call 160; exact Later.call (IN.out _))))
            refine wpQuiet_nil ?_
            intro s1
            have hbs := (BS.out s1).1
            have hzs := (BS.out s1).2
            go_wp2
            go_roundw
            case rel => exact ⟨k + 1, by omega, by go_num, hbs, hzs, YY.out⟩
            case measure => simp [intOf]; omega
        · have NN := Lib.hid (NO.out (fun h => h1 h.2.1))
          have d0 : decide (q < 0) = false := decide_eq_false (by omega)
          have d1 : decide (n ≤ q) = true := decide_eq_true (by omega)
          clear htl htk h0 h1
          go_wp2
          refine wp_region_later (by kernel_rfl) (by kernel_rfl) ?_
          repeat (go_big_quiet_step (fail))
          refine wpQuiet_nil ?_
          intro s1
          go_wp2
          go_ret
          exact ⟨RetB.no rfl NN.out, (BS.out s1).1⟩
      · have NN := Lib.hid (NO.out (fun h => h0 h.1))
        have d0 : decide (q < 0) = true := decide_eq_true (by omega)
        clear htl htk h0
        go_wp2
        refine wp_region_later (by kernel_rfl) (by kernel_rfl) ?_
        repeat (go_big_quiet_step (fail))
        refine wpQuiet_nil ?_
        intro s1
        go_wp2
        go_ret
        exact ⟨RetB.no rfl NN.out, (BS.out s1).1⟩
    · have HA : Hid (∀ i (h : i < l.length), 0 ≤ l[i] ∧ l[i] < n ∧ l[i] ∉ l.take i) := fun i h => HE.out i h (by omega)
      by_cases h1 : 1 ≤ l.length
      · by_cases h2 : l.length ≤ 6
        · have d0 : decide ((1 : Int) ≤ l.length) = true := decide_eq_true (by omega)
          have d1 : decide (1 ≤ l.length) = true := decide_eq_true (by omega)
          have d2 : decide ((l.length : Int) ≤ 6) = true := decide_eq_true (by omega)
          have d3 : decide (l.length ≤ 6) = true := decide_eq_true (by omega)
          have HO := Lib.hid (And.intro HA.out (And.intro h1 h2))
          go_wp2
          go_ret
          exact ⟨RetB.yes rfl HO.out, hb⟩
        · have d0 : decide ((1 : Int) ≤ l.length) = true := decide_eq_true (by omega)
          have d1 : decide (1 ≤ l.length) = true := decide_eq_true (by omega)
          have d2 : decide ((l.length : Int) ≤ 6) = false := decide_eq_false (by omega)
          have d3 : decide (l.length ≤ 6) = false := decide_eq_false (by omega)
          have HO : Hid (¬ PlacesOk l n) := fun h => h2 h.2.2
          go_wp2
          go_ret
          exact ⟨RetB.no rfl HO.out, hb⟩
      · have d0 : decide ((1 : Int) ≤ l.length) = false := decide_eq_false (by omega)
        have d1 : decide (1 ≤ l.length) = false := decide_eq_false (by omega)
        have HO : Hid (¬ PlacesOk l n) := fun h => h1 h.2.1
        go_wp2
        go_ret
        exact ⟨RetB.no rfl HO.out, hb⟩
end Go.Proofs.Ytikkknaofiafhaa

namespace Go.Proofs.Ytikkknaofiafhaa
open Go.RowKit

theorem strNe {a b : ByteArray} (h : a ≠ b) : (a.toList == b.toList) = false := by
  rw [beq_eq_false_iff_ne]
  exact fun e => h (toList_inj e)
def ColOk (t : TabD) (i : Nat) : Prop := ∃ h : i < t.cols.length, NameOk t.cols[i].name ∧ (t.cols[i].kind = 1 ∨ t.cols[i].kind = 2) ∧ ∀ k (hk : k < i), t.cols[k].name ≠ t.cols[i].name
def NullOk (t : TabD) (i : Nat) : Prop := ∀ (h : i < t.key.length) (q : Nat), t.key[i] = q → ∀ hq : q < t.cols.length, t.cols[q].null = false
def TableOk (t : TabD) : Prop := NameOk t.name ∧ (1 ≤ t.cols.length ∧ t.cols.length ≤ 6) ∧ PlacesOk t.key t.cols.length ∧ (∀ i, i < t.cols.length → ColOk t i) ∧ ∀ i, i < t.key.length → NullOk t i

set_option maxRecDepth 100000 in
set_option maxHeartbeats 6400000 in
theorem tableRight_any {ok : Nat → Prop} (t : TabD) (a b : Value) (w : World) (ht : TabR ok w a b t) :
    Calls Try.prog 146 #[.agg (tabCs t a b)] w fun e w' => RetB e (TableOk t) ∧ Below w.heap.size w w' := by
  obtain ⟨A, c, rfl, hc, hbd⟩ := ht.cols.form
  obtain ⟨A3, c3, rfl, hc3, hbd3⟩ := ht.key.form
  have hbd' : t.cols.length * 32 ≤ 140737488351232 := hbd
  have hbd3' : t.key.length * 8 ≤ 140737488351232 := hbd3
  clear hbd hbd3
  go_enter Try.func146, Try.ntmps146
  unfold tabCs
  go_upto_region 1 with fail
  refine name_world (fun w1 => Below w.heap.size w w1 ∧ w.heap.size + 1 ≤ w1.heap.size ∧ Blk w1 w.heap.size 56 (tabCs t (.slice A t.cols.length c) (.slice A3 t.key.length c3)))
    ⟨(Below.refl _ _).alloc (Nat.le_refl _) _, by simp, Blk.new w _ _⟩ ?_
  rintro w1 ⟨hb1, hz1, kt⟩
  have a1 : w1.cell? ⟨w.heap.size, 1, none⟩ = some (.string t.name) := kt.cell 1
  have a2 : w1.cell? ⟨w.heap.size, 2, none⟩ = some (.slice A t.cols.length c) := kt.cell 2
  have a3 : w1.cell? ⟨w.heap.size, 3, none⟩ = some (.slice A3 t.key.length c3) := kt.cell 3
  go_wp2_with fail
  refine (nameOk_any t.name _ ht.nm).mono ?_
  rintro e w2 ⟨⟨bn, rfl, hbn⟩, hww⟩
  subst hww
  cases bn
  · have NN : Hid (¬ TableOk t) := fun h => by have := hbn.2 h.1; cases this
    clear hbn
    go_wp2
    go_ret
    exact ⟨RetB.no rfl NN.out, hb1⟩
  · have HN := Lib.hid (hbn.1 rfl)
    clear hbn
    by_cases h1 : 1 ≤ t.cols.length
    · have d0 : decide ((t.cols.length : Int) < 1) = false := decide_eq_false (by omega)
      have d1 : decide (t.cols.length < 1) = false := decide_eq_false (by omega)
      by_cases h2 : t.cols.length ≤ 6
      · have d2 : decide ((6 : Int) < t.cols.length) = false := decide_eq_false (by omega)
        have d3 : decide (6 < t.cols.length) = false := decide_eq_false (by omega)
        have HL := Lib.hid (And.intro h1 h2)
        clear h1 h2
        go_wp2_with fail
        refine (places_any _ t.key t.cols.length _ (ht.key.below hb1)).mono ?_
        rintro e w3 ⟨⟨bp, rfl, hbp⟩, hb3⟩
        have hB3 := hb1.trans (hb3.mono hb1.size)
        have kt3 := kt.below hb3 kt.lt
        have hz3 : w.heap.size + 1 ≤ w3.heap.size := by have := hb3.size; omega
        clear a1 a2 a3 kt
        cases bp
        · have NN : Hid (¬ TableOk t) := fun h => by have := hbp.2 h.2.2.1; cases this
          clear hbp
          go_wp2
          go_ret
          exact ⟨RetB.no rfl NN.out, hB3⟩
        · have HP := Lib.hid (hbp.1 rfl)
          clear hbp
          go_wp2
          go_loopw [3] (fun j wr => ∃ k : Nat, k ≤ t.cols.length ∧ j = .int .i64 (k : Int) ∧ Below w3.heap.size w3 wr ∧ w3.heap.size ≤ wr.heap.size ∧ Hid (∀ i, i < k → ColOk t i)) (fun j _ => t.cols.length - (intOf j).toNat)
          case atStart => exact ⟨0, by omega, rfl, Below.refl _ _, Nat.le_refl _, fun _ h => absurd h (by omega)⟩
          case round =>
            obtain ⟨k, hk, rfl, hb, hz, HA⟩ := hrel
            have hBw := hB3.trans (hb.mono hB3.size)
            have ktw := kt3.below hb kt3.lt
            have a2 : wr.cell? ⟨w.heap.size, 2, none⟩ = some (.slice A t.cols.length c) := ktw.cell 2
            by_cases hlt : k < t.cols.length
            · obtain ⟨b0, off0, c0', cs0, hv0, _, ⟨rfl, _, hnm⟩, hcell0⟩ := (ht.cols.below hBw).at_ hlt
              simp only [Value.slice.injEq, true_and] at hv0
              obtain ⟨rfl, rfl⟩ := hv0
              have q0 := hcell0 0 _ rfl
              have q1 := hcell0 1 _ rfl
              have q2 := hcell0 2 _ rfl
              simp only [Nat.add_zero, show rCol.sz = 3 from rfl] at q0 q1 q2
              clear hcell0
              have NO : Hid (¬ ColOk t k → ¬ TableOk t) := fun h hp => h (hp.2.2.2.1 k hlt)
              have YES : Hid (ColOk t k → ∀ i, i < k + 1 → ColOk t i) := fun h i hi => by
                rcases Nat.lt_or_ge i k with g | g
                · exact HA.out i g
                · obtain rfl : i = k := by omega
                  exact h
              have COL : Hid (ColOk t k ↔ (NameOk t.cols[k].name ∧ (t.cols[k].kind = 1 ∨ t.cols[k].kind = 2) ∧ ∀ i (hi : i < k), t.cols[i].name ≠ t.cols[k].name)) := ⟨fun ⟨_, h⟩ => h, fun h => ⟨hlt, h⟩⟩
              obtain ⟨cD, hcD⟩ : ∃ d, d = t.cols[k] := ⟨_, rfl⟩
              rw [← hcD] at q0 q1 q2 hnm COL
              clear hcD
              go_upto_region 7 with fail
              refine name_world (fun w5 => Below wr.heap.size wr w5 ∧ wr.heap.size + 1 ≤ w5.heap.size ∧ Blk w5 wr.heap.size 171 #[.string cD.name, .int .i64 cD.kind, .bool cD.null])
                ⟨(Below.refl _ _).alloc (Nat.le_refl _) _, by simp, Blk.new wr _ _⟩ ?_
              rintro w5 ⟨hb5, hz5, kc⟩
              have hB5 := hb.trans (hb5.mono hz)
              have hB5w := hBw.trans (hb5.mono hBw.size)
              have kt5 := ktw.below hb5 ktw.lt
              have hz5' : w3.heap.size ≤ w5.heap.size := by omega
              clear a2 q0 q1 q2 ktw hb5 hb hBw
              generalize wr.heap.size = g at *
              clear hz5 hz
              have c0 : w5.cell? ⟨g, 0, none⟩ = some (.string cD.name) := kc.cell 0
              have c1 : w5.cell? ⟨g, 1, none⟩ = some (.int .i64 cD.kind) := kc.cell 1
              go_wp2_with fail
              refine (nameOk_any cD.name _ hnm).mono ?_
              rintro e w6 ⟨⟨bm, rfl, hbm⟩, hww⟩
              subst hww
              cases bm
              · have NN : Hid (¬ TableOk t) := NO.out fun h => by have := hbm.2 (COL.out.1 h).1; cases this
                clear hbm
                go_wp2
                go_ret
                exact ⟨RetB.no rfl NN.out, hB5w⟩
              · have HNM := Lib.hid (hbm.1 rfl)
                clear hbm
                by_cases hK : cD.kind = 1 ∨ cD.kind = 2
                · have HK := Lib.hid hK
                  rcases hK with h | h
                  · have g1 : (cD.kind != 1) = false := by simp [h]
                    clear h
                    go_wp2
                    go_loopw [5] (fun j wr => ∃ q : Nat, q ≤ k ∧ j = .int .i64 (q : Int) ∧ Below w5.heap.size w5 wr ∧ w5.heap.size ≤ wr.heap.size ∧ Hid (∀ i (h : i < t.cols.length), i < q → t.cols[i].name ≠ cD.name)) (fun j _ => k - (intOf j).toNat)
                    case atStart => exact ⟨0, by omega, rfl, Below.refl _ _, Nat.le_refl _, fun _ _ h => absurd h (by omega)⟩
                    case round =>
                      obtain ⟨q, hq, rfl, hb6, hz6, HB⟩ := hrel
                      have hB6 := hB5.trans (hb6.mono hz5')
                      have hB6w := hB5w.trans (hb6.mono hB5w.size)
                      have kt6 := kt5.below hb6 kt5.lt
                      have kc6 := kc.below hb6 kc.lt
                      have hz6' : w3.heap.size ≤ wr.heap.size := by omega
                      by_cases hlt2 : q < k
                      · have hqc : q < t.cols.length := by omega
                        obtain ⟨b1, off1, c1', cs1, hv1, _, ⟨rfl, _, _⟩, hcell1⟩ := (ht.cols.below hB6w).at_ hqc
                        simp only [Value.slice.injEq, Option.some.injEq, Addr.mk.injEq, true_and, and_true] at hv1
                        obtain ⟨⟨rfl, rfl⟩, rfl⟩ := hv1
                        have r0 := hcell1 0 _ rfl
                        simp only [Nat.add_zero, show rCol.sz = 3 from rfl] at r0
                        clear hcell1
                        have a2 : wr.cell? ⟨w.heap.size, 2, none⟩ = some (.slice (some ⟨b0, off0, none⟩) t.cols.length c) := kt6.cell 2
                        have c0 : wr.cell? ⟨g, 0, none⟩ = some (.string cD.name) := kc6.cell 0
                        have HQ : Hid (t.cols[q].name = cD.name → ¬ TableOk t) := fun h => NO.out fun hc => (COL.out.1 hc).2.2 q hlt2 h
                        have HB2 : Hid (t.cols[q].name ≠ cD.name → ∀ i (h : i < t.cols.length), i < q + 1 → t.cols[i].name ≠ cD.name) := fun h i hi hi2 => by
                          rcases Nat.lt_or_ge i q with g | g
                          · exact HB.out i hi g
                          · obtain rfl : i = q := by omega
                            exact h
                        obtain ⟨nm, hnm2⟩ : ∃ n, n = t.cols[q].name := ⟨_, rfl⟩
                        rw [← hnm2] at r0 HQ HB2
                        clear hnm2
                        have l0 := Later.cell r0
                        have l1 := Later.cell a2
                        have l2 := Later.cell c0
                        have BS : Hid (∀ s : Later wr, Below w5.heap.size w5 s.val ∧ w5.heap.size ≤ s.val.heap.size ∧ Below w.heap.size w s.val) := fun s => ⟨hb6.trans (s.below.mono hz6), by have := s.below.size; omega, hB6w.trans (s.below.mono hB6w.size)⟩
                        by_cases he : nm = cD.name
                        · have e0 : (nm.toList == cD.name.toList) = true := by simp [he]
                          have NN := Lib.hid (HQ.out he)
                          clear he
                          go_wp2
                          refine wp_region_later (by kernel_rfl) (by kernel_rfl) ?_
                          repeat (go_big_quiet_step (fail))
                          refine wpQuiet_nil ?_
                          intro s1
                          go_wp2
                          go_ret
                          exact ⟨RetB.no rfl NN.out, (BS.out s1).2.2⟩
                        · have e0 : (nm.toList == cD.name.toList) = false := strNe he
                          have YY := Lib.hid (HB2.out he)
                          clear he
                          go_wp2
                          refine wp_region_later (by kernel_rfl) (by kernel_rfl) ?_
                          repeat (go_big_quiet_step (fail))
                          refine wpQuiet_nil ?_
                          intro s1
                          have hbs := (BS.out s1).1
                          have hzs := (BS.out s1).2.1
                          go_wp2
                          go_roundw
                          case rel => exact ⟨q + 1, by omega, by go_num, hbs, hzs, YY.out⟩
                          case measure => simp [intOf]; omega
                      · have YY : Hid (∀ i, i < k + 1 → ColOk t i) := YES.out (COL.out.2 ⟨HNM.out, HK.out, fun i hi => HB.out i (by omega) (by omega)⟩)
                        go_wp2
                        go_roundw
                        case rel => exact ⟨k + 1, by omega, by go_num, hB6, hz6', YY.out⟩
                        case measure => simp [intOf]; omega
                  · have g1 : (cD.kind != 1) = true := by simp; omega
                    have g2 : (cD.kind != 2) = false := by simp [h]
                    clear h
                    go_wp2
                    go_loopw [5] (fun j wr => ∃ q : Nat, q ≤ k ∧ j = .int .i64 (q : Int) ∧ Below w5.heap.size w5 wr ∧ w5.heap.size ≤ wr.heap.size ∧ Hid (∀ i (h : i < t.cols.length), i < q → t.cols[i].name ≠ cD.name)) (fun j _ => k - (intOf j).toNat)
                    case atStart => exact ⟨0, by omega, rfl, Below.refl _ _, Nat.le_refl _, fun _ _ h => absurd h (by omega)⟩
                    case round =>
                      obtain ⟨q, hq, rfl, hb6, hz6, HB⟩ := hrel
                      have hB6 := hB5.trans (hb6.mono hz5')
                      have hB6w := hB5w.trans (hb6.mono hB5w.size)
                      have kt6 := kt5.below hb6 kt5.lt
                      have kc6 := kc.below hb6 kc.lt
                      have hz6' : w3.heap.size ≤ wr.heap.size := by omega
                      by_cases hlt2 : q < k
                      · have hqc : q < t.cols.length := by omega
                        obtain ⟨b1, off1, c1', cs1, hv1, _, ⟨rfl, _, _⟩, hcell1⟩ := (ht.cols.below hB6w).at_ hqc
                        simp only [Value.slice.injEq, Option.some.injEq, Addr.mk.injEq, true_and, and_true] at hv1
                        obtain ⟨⟨rfl, rfl⟩, rfl⟩ := hv1
                        have r0 := hcell1 0 _ rfl
                        simp only [Nat.add_zero, show rCol.sz = 3 from rfl] at r0
                        clear hcell1
                        have a2 : wr.cell? ⟨w.heap.size, 2, none⟩ = some (.slice (some ⟨b0, off0, none⟩) t.cols.length c) := kt6.cell 2
                        have c0 : wr.cell? ⟨g, 0, none⟩ = some (.string cD.name) := kc6.cell 0
                        have HQ : Hid (t.cols[q].name = cD.name → ¬ TableOk t) := fun h => NO.out fun hc => (COL.out.1 hc).2.2 q hlt2 h
                        have HB2 : Hid (t.cols[q].name ≠ cD.name → ∀ i (h : i < t.cols.length), i < q + 1 → t.cols[i].name ≠ cD.name) := fun h i hi hi2 => by
                          rcases Nat.lt_or_ge i q with g | g
                          · exact HB.out i hi g
                          · obtain rfl : i = q := by omega
                            exact h
                        obtain ⟨nm, hnm2⟩ : ∃ n, n = t.cols[q].name := ⟨_, rfl⟩
                        rw [← hnm2] at r0 HQ HB2
                        clear hnm2
                        have l0 := Later.cell r0
                        have l1 := Later.cell a2
                        have l2 := Later.cell c0
                        have BS : Hid (∀ s : Later wr, Below w5.heap.size w5 s.val ∧ w5.heap.size ≤ s.val.heap.size ∧ Below w.heap.size w s.val) := fun s => ⟨hb6.trans (s.below.mono hz6), by have := s.below.size; omega, hB6w.trans (s.below.mono hB6w.size)⟩
                        by_cases he : nm = cD.name
                        · have e0 : (nm.toList == cD.name.toList) = true := by simp [he]
                          have NN := Lib.hid (HQ.out he)
                          clear he
                          go_wp2
                          refine wp_region_later (by kernel_rfl) (by kernel_rfl) ?_
                          repeat (go_big_quiet_step (fail))
                          refine wpQuiet_nil ?_
                          intro s1
                          go_wp2
                          go_ret
                          exact ⟨RetB.no rfl NN.out, (BS.out s1).2.2⟩
                        · have e0 : (nm.toList == cD.name.toList) = false := strNe he
                          have YY := Lib.hid (HB2.out he)
                          clear he
                          go_wp2
                          refine wp_region_later (by kernel_rfl) (by kernel_rfl) ?_
                          repeat (go_big_quiet_step (fail))
                          refine wpQuiet_nil ?_
                          intro s1
                          have hbs := (BS.out s1).1
                          have hzs := (BS.out s1).2.1
                          go_wp2
                          go_roundw
                          case rel => exact ⟨q + 1, by omega, by go_num, hbs, hzs, YY.out⟩
                          case measure => simp [intOf]; omega
                      · have YY : Hid (∀ i, i < k + 1 → ColOk t i) := YES.out (COL.out.2 ⟨HNM.out, HK.out, fun i hi => HB.out i (by omega) (by omega)⟩)
                        go_wp2
                        go_roundw
                        case rel => exact ⟨k + 1, by omega, by go_num, hB6, hz6', YY.out⟩
                        case measure => simp [intOf]; omega
                · have g1 : (cD.kind != 1) = true := by simp; omega
                  have g2 : (cD.kind != 2) = true := by simp; omega
                  have NN : Hid (¬ TableOk t) := NO.out fun h => hK (COL.out.1 h).2.1
                  clear hK
                  go_wp2
                  go_ret
                  exact ⟨RetB.no rfl NN.out, hB5w⟩
            · have hA : Hid (∀ i, i < t.cols.length → ColOk t i) := fun i hi => HA.out i (by omega)
              clear HA
              go_wp2
              go_loopw [6] (fun j wr => ∃ q : Nat, q ≤ t.key.length ∧ j = .int .i64 (q : Int) ∧ Below w3.heap.size w3 wr ∧ w3.heap.size ≤ wr.heap.size ∧ Hid (∀ i, i < q → NullOk t i)) (fun j _ => t.key.length - (intOf j).toNat)
              case atStart => exact ⟨0, by omega, rfl, hb, hz, fun _ h => absurd h (by omega)⟩
              case round =>
                clear hb hz hBw a2 ktw
                obtain ⟨q, hq, rfl, hb, hz, HB⟩ := hrel
                have hBw := hB3.trans (hb.mono hB3.size)
                have ktw := kt3.below hb kt3.lt
                have a2 : wr.cell? ⟨w.heap.size, 2, none⟩ = some (.slice A t.cols.length c) := ktw.cell 2
                have a3 : wr.cell? ⟨w.heap.size, 3, none⟩ = some (.slice A3 t.key.length c3) := ktw.cell 3
                by_cases hlt2 : q < t.key.length
                · obtain ⟨hk0, hk1, _⟩ := HP.out.1 q hlt2
                  obtain ⟨b1, off1, c1', cs1, hv1, _, ⟨rfl, _⟩, hcell1⟩ := (ht.key.below hBw).at_ hlt2
                  simp only [Value.slice.injEq, true_and] at hv1
                  obtain ⟨rfl, rfl⟩ := hv1
                  have r0 := hcell1 0 _ rfl
                  simp only [Nat.add_zero, show rInt.sz = 1 from rfl, Nat.mul_one] at r0
                  clear hcell1
                  obtain ⟨p, hp⟩ := Int.eq_ofNat_of_zero_le hk0
                  rw [hp] at r0 hk1
                  have hpc : p < t.cols.length := by omega
                  obtain ⟨b2, off2, c2', cs2, hv2, _, ⟨rfl, _⟩, hcell2⟩ := (ht.cols.below hBw).at_ hpc
                  simp only [Value.slice.injEq, true_and] at hv2
                  obtain ⟨rfl, rfl⟩ := hv2
                  have r2 := hcell2 2 _ rfl
                  simp only [show rCol.sz = 3 from rfl] at r2
                  clear hcell2
                  have NO : Hid (t.cols[p].null = true → ¬ TableOk t) := fun h hT => by
                    have := hT.2.2.2.2 q hlt2 hlt2 p hp hpc
                    rw [h] at this; cases this
                  have YES : Hid (t.cols[p].null = false → ∀ i, i < q + 1 → NullOk t i) := fun h i hi => by
                    rcases Nat.lt_or_ge i q with g | g
                    · exact HB.out i g
                    · obtain rfl : i = q := by omega
                      intro h1 p' hp' hpc'
                      have : p' = p := by rw [hp] at hp'; exact (Int.ofNat.inj hp').symm
                      subst this
                      exact h
                  obtain ⟨nb, hnb⟩ : ∃ n, n = t.cols[p].null := ⟨_, rfl⟩
                  rw [← hnb] at r2 NO YES
                  clear hnb hp hk0 hk1
                  have l0 := Later.cell r0
                  have l1 := Later.cell r2
                  have l2 := Later.cell a2
                  have l3 := Later.cell a3
                  have BS : Hid (∀ s : Later wr, Below w3.heap.size w3 s.val ∧ w3.heap.size ≤ s.val.heap.size ∧ Below w.heap.size w s.val) := fun s => ⟨hb.trans (s.below.mono hz), by have := s.below.size; omega, hBw.trans (s.below.mono hBw.size)⟩
                  go_wp2
                  refine wp_region_later (by kernel_rfl) (by kernel_rfl) ?_
                  repeat (go_big_quiet_step (fail))
                  refine wpQuiet_nil ?_
                  intro s1
                  have hbs := (BS.out s1).1
                  have hzs := (BS.out s1).2.1
                  have hbw1 := (BS.out s1).2.2
                  cases nb
                  · have YY := Lib.hid (YES.out rfl)
                    clear NO YES
                    go_wp2
                    go_roundw
                    case rel => exact ⟨q + 1, by omega, by go_num, hbs, hzs, YY.out⟩
                    case measure => simp [intOf]; omega
                  · have NN := Lib.hid (NO.out rfl)
                    clear NO YES
                    go_wp2
                    go_ret
                    exact ⟨RetB.no rfl NN.out, hbw1⟩
                · have YY : Hid (TableOk t) := ⟨HN.out, HL.out, HP.out, hA.out, fun i hi => HB.out i (by omega)⟩
                  go_wp2
                  go_ret
                  exact ⟨RetB.yes rfl YY.out, hBw⟩
      · have NN : Hid (¬ TableOk t) := fun h => h2 h.2.1.2
        have d2 : decide ((6 : Int) < t.cols.length) = true := decide_eq_true (by omega)
        have d3 : decide (6 < t.cols.length) = true := decide_eq_true (by omega)
        go_wp2
        go_ret
        exact ⟨RetB.no rfl NN.out, hb1⟩
    · have NN : Hid (¬ TableOk t) := fun h => h1 h.2.1.1
      have d0 : decide ((t.cols.length : Int) < 1) = true := decide_eq_true (by omega)
      have d1 : decide (t.cols.length < 1) = true := decide_eq_true (by omega)
      go_wp2
      go_ret
      exact ⟨RetB.no rfl NN.out, hb1⟩
end Go.Proofs.Ytikkknaofiafhaa

namespace Go.Proofs.Ytikkknaofiafhaa
open Go.RowKit

theorem TabR.kp {ok : Nat → Prop} {w w' : World} {a b : Value} {d : TabD} (hk : Kp ok w w') (h : TabR ok w a b d) : TabR ok w' a b d := ⟨h.cols.kp hk, h.key.kp hk, h.id, h.nm⟩
theorem TabR.mono {ok ok' : Nat → Prop} {w : World} {a b : Value} {d : TabD} (hm : ∀ b, ok b → b < w.heap.size → ok' b) (h : TabR ok w a b d) : TabR ok' w a b d := ⟨h.cols.mono (by decide) hm, h.key.mono (by decide) hm, h.id, h.nm⟩
theorem IdxR.kp {ok : Nat → Prop} {w w' : World} {a : Value} {d : IdxD} (hk : Kp ok w w') (h : IdxR ok w a d) : IdxR ok w' a d := ⟨h.cols.kp hk, h.id, h.nm⟩
theorem IdxR.mono {ok ok' : Nat → Prop} {w : World} {a : Value} {d : IdxD} (hm : ∀ b, ok b → b < w.heap.size → ok' b) (h : IdxR ok w a d) : IdxR ok' w a d := ⟨h.cols.mono (by decide) hm, h.id, h.nm⟩
def rTab : Rel TabD where
  sz := 4
  wt := 72
  rel ok w cs d := ∃ a b, cs = [.int .i64 d.id, .string d.name, a, b] ∧ TabR ok w a b d
  len := by rintro ok w cs d ⟨a, c, rfl, _⟩; rfl
  one := by
    rintro ok w cs d ⟨a, c, rfl, h⟩ u hu
    simp at hu
    rcases hu with rfl | rfl | rfl | rfl
    · rfl
    · rfl
    · exact h.cols.one
    · exact h.key.one
  kp := by
    rintro ok w w' cs d hk ⟨a, c, rfl, h⟩
    exact ⟨a, c, rfl, h.kp hk⟩
  mono := by
    rintro ok ok' w cs d hm ⟨a, c, rfl, h⟩
    exact ⟨a, c, rfl, h.mono hm⟩
def rIdx : Rel IdxD where
  sz := 7
  wt := 80
  rel ok w cs d := ∃ a, cs = [.int .i64 d.id, .int .i64 d.table, .string d.name, a, .bool d.uniq, .int .i64 d.state, .bool d.bad] ∧ IdxR ok w a d
  len := by rintro ok w cs d ⟨a, rfl, _⟩; rfl
  one := by
    rintro ok w cs d ⟨a, rfl, h⟩ u hu
    simp at hu
    rcases hu with rfl | rfl | rfl | rfl | rfl | rfl | rfl
    · rfl
    · rfl
    · rfl
    · exact h.cols.one
    · rfl
    · rfl
    · rfl
  kp := by
    rintro ok w w' cs d hk ⟨a, rfl, h⟩
    exact ⟨a, rfl, h.kp hk⟩
  mono := by
    rintro ok ok' w cs d hm ⟨a, rfl, h⟩
    exact ⟨a, rfl, h.mono hm⟩
structure CatD where
  ver : Int
  next : Int
  tabs : List TabD
  idxs : List IdxD
def catCs (d : CatD) (a b : Value) : Array Value := #[.int .i64 d.ver, .int .i64 d.next, a, b]
structure CatR (ok : Nat → Prop) (w : World) (a b : Value) (d : CatD) : Prop where
  tabs : RSl rTab ok w a d.tabs
  idxs : RSl rIdx ok w b d.idxs
theorem CatR.below {ok : Nat → Prop} {w w' : World} {a b : Value} {d : CatD} (h : CatR ok w a b d) (hb : Below w.heap.size w w') : CatR ok w' a b d := ⟨h.tabs.below hb, h.idxs.below hb⟩

theorem set4_cells {w : World} {g : Nat} {t : TypeId} {x0 x1 x2 x3 : Value} (h : Blk w g t #[x0, x1, x2, x3]) : w.cell? ⟨g, 0, none⟩ = some x0 ∧ w.cell? ⟨g, 1, none⟩ = some x1 ∧ w.cell? ⟨g, 2, none⟩ = some x2 ∧ w.cell? ⟨g, 3, none⟩ = some x3 := ⟨h.cell 0, h.cell 1, h.cell 2, h.cell 3⟩
theorem Blk.set4 {w : World} {g : Nat} {T : TypeId} {x0 x1 x2 x3 : Value} (h : Blk w g T #[x0, x1, x2, x3]) (y0 y1 y2 y3 : Value) : Blk ((((w.setCell ⟨g, 0, none⟩ y0).setCell ⟨g, 1, none⟩ y1).setCell ⟨g, 2, none⟩ y2).setCell ⟨g, 3, none⟩ y3) g T #[y0, y1, y2, y3] := by
  have := (((h.set_ 0 y0).set_ 1 y1).set_ 2 y2).set_ 3 y3
  simpa using this
theorem below_set4 {B : Nat} {a w : World} (h : Below B a w) {g : Nat} (hg : B ≤ g) (x0 x1 x2 x3 : Value) : Below B a ((((w.setCell ⟨g, 0, none⟩ x0).setCell ⟨g, 1, none⟩ x1).setCell ⟨g, 2, none⟩ x2).setCell ⟨g, 3, none⟩ x3) :=
  (((h.setCell hg _).setCell hg _).setCell hg _).setCell hg _
theorem kp_set4 {ok : Nat → Prop} {w : World} {g : Nat} (hg : ¬ ok g) (x0 x1 x2 x3 : Value) : Kp ok w ((((w.setCell ⟨g, 0, none⟩ x0).setCell ⟨g, 1, none⟩ x1).setCell ⟨g, 2, none⟩ x2).setCell ⟨g, 3, none⟩ x3) :=
  ((((Kp.refl _ _).setCell (fun _ h => hg h) _).setCell (fun _ h => hg h) _).setCell (fun _ h => hg h) _).setCell (fun _ h => hg h) _
def zeroT : TabD := ⟨0, ⟨#[]⟩, [], []⟩
def ByIDPost (ok : Nat → Prop) (ts : List TabD) (id : Int) (e : Ending) (w' : World) : Prop :=
  ∃ t a b bb, e = .returned (.tuple #[.agg (tabCs t a b), .bool bb]) ∧ TabR ok w' a b t ∧ ((bb = true ∧ ts.find? (fun t => t.id == id) = some t) ∨ (bb = false ∧ ts.find? (fun t => t.id == id) = none ∧ t = zeroT))

set_option maxRecDepth 100000 in
set_option maxHeartbeats 3200000 in
theorem byID_any {ok : Nat → Prop} (c : CatD) (a b : Value) (id : Int) (w : World) (hc : CatR ok w a b c) :
    Calls Try.prog 161 #[.agg (catCs c a b), .int .i64 id] w fun e w' => ByIDPost ok c.tabs id e w' ∧ Below w.heap.size w w' := by
  obtain ⟨A, n, rfl, hn, hbd⟩ := hc.tabs.form
  have hbd' : c.tabs.length * 72 ≤ 140737488351232 := hbd
  clear hbd
  go_enter Try.func161, Try.ntmps161
  unfold catCs
  go_upto_region 1 with fail
  refine name_world (fun w1 => Below w.heap.size w w1 ∧ w.heap.size + 2 ≤ w1.heap.size ∧ Blk w1 w.heap.size 68 (catCs c (.slice A c.tabs.length n) b) ∧ Blk w1 (w.heap.size + 1) 56 #[.int .i64 0, .string ⟨#[]⟩, .slice none 0 0, .slice none 0 0])
    ⟨((Below.refl _ _).alloc (Nat.le_refl _) _).alloc (by simp) _, by simp, (Blk.new w _ _).alloc _, Blk.new_ (by simp)⟩ ?_
  rintro w1 ⟨hb1, hz1, kc, kt⟩
  have a2 : w1.cell? ⟨w.heap.size, 2, none⟩ = some (.slice A c.tabs.length n) := kc.cell 2
  obtain ⟨z0, z1, z2, z3⟩ := set4_cells kt
  have fz := fun i => kt.frozen i
  go_wp2
  go_loop [6] (fun i => ∃ k : Nat, k ≤ c.tabs.length ∧ i = .int .i64 (k : Int) ∧ Hid (c.tabs.find? (fun t => t.id == id) = (c.tabs.drop k).find? (fun t => t.id == id))) (fun i => c.tabs.length - (intOf i).toNat)
  case atStart => exact ⟨0, by omega, rfl, rfl⟩
  case round =>
    obtain ⟨k, hk, rfl, HE⟩ := hrel
    by_cases hlt : k < c.tabs.length
    · obtain ⟨b1, off1, c1', cs1, hv1, _, ⟨ta, tb, rfl, hT⟩, hcell1⟩ := ((hc.tabs.mono (by decide) (ok' := fun b => ok b ∧ b < w.heap.size) fun b h1 h2 => ⟨h1, h2⟩).below hb1).at_ hlt
      simp only [Value.slice.injEq, true_and] at hv1
      obtain ⟨rfl, rfl⟩ := hv1
      have p0 := hcell1 0 _ rfl
      have p1 := hcell1 1 _ rfl
      have p2 := hcell1 2 _ rfl
      have p3 := hcell1 3 _ rfl
      simp only [Nat.add_zero, show rTab.sz = 4 from rfl] at p0 p1 p2 p3
      clear hcell1
      have HS : Hid ((c.tabs.drop k).find? (fun t => t.id == id) = if c.tabs[k].id == id then some c.tabs[k] else (c.tabs.drop (k + 1)).find? (fun t => t.id == id)) := by
        unfold Hid
        rw [List.drop_eq_getElem_cons hlt, List.find?_cons]
        cases c.tabs[k].id == id <;> rfl
      obtain ⟨t, ht⟩ : ∃ t, t = c.tabs[k] := ⟨_, rfl⟩
      rw [← ht] at p0 p1 HS hT
      clear ht
      cases he : t.id == id
      · have HEQ : Hid (c.tabs.find? (fun t => t.id == id) = (c.tabs.drop (k + 1)).find? (fun t => t.id == id)) := by unfold Hid; rw [HE.out, HS.out, he]; rfl
        clear HS
        go_wp2
        go_round
        case rel => exact ⟨k + 1, by omega, by go_num, HEQ⟩
        case measure => simp [intOf]; omega
      · have HEQ : Hid (c.tabs.find? (fun t => t.id == id) = some t) := by unfold Hid; rw [HE.out, HS.out, he]; rfl
        clear HS
        obtain ⟨A1, n1, rfl, _, _⟩ := hT.cols.form
        obtain ⟨A2, n2, rfl, _, _⟩ := hT.key.form
        go_wp2
        have hx := kt.set4 (.int .i64 t.id) (.string t.name) (.slice A1 t.cols.length n1) (.slice A2 t.key.length n2)
        obtain ⟨d0, d1, d2, d3⟩ := set4_cells hx
        have hbx := below_set4 hb1 (g := w.heap.size + 1) (by omega) (.int .i64 t.id) (.string t.name) (.slice A1 t.cols.length n1) (.slice A2 t.key.length n2)
        refine bodyPost_ret (v := .tuple #[.agg #[.int .i64 t.id, .string t.name, .slice A1 t.cols.length n1, .slice A2 t.key.length n2], .bool true]) (by simp [results, Try.results161, go_sem, d0, d1, d2, d3]) rfl ?_
        refine ⟨⟨t, _, _, true, rfl, ?_, .inl ⟨rfl, HEQ.out⟩⟩, hbx⟩
        exact (hT.kp (kp_set4 (fun h => by have := h.2; omega) _ _ _ _)).mono fun b h _ => h.1
    · go_wp2
      have hx := kt.set4 (.int .i64 0) (.string ⟨#[]⟩) (.slice none 0 0) (.slice none 0 0)
      obtain ⟨d0, d1, d2, d3⟩ := set4_cells hx
      have hbx := below_set4 hb1 (g := w.heap.size + 1) (by omega) (.int .i64 0) (.string ⟨#[]⟩) (.slice none 0 0) (.slice none 0 0)
      refine bodyPost_ret (v := .tuple #[.agg #[.int .i64 0, .string ⟨#[]⟩, .slice none 0 0, .slice none 0 0], .bool false]) (by simp [results, Try.results161, go_sem, d0, d1, d2, d3]) rfl ?_
      refine ⟨⟨zeroT, _, _, false, rfl, ⟨RSl.nil_ _ _ _, RSl.nil_ _ _ _, ⟨by decide, by decide⟩, by decide⟩, .inr ⟨rfl, ?_, rfl⟩⟩, hbx⟩
      rw [HE.out, List.drop_of_length_le (by omega)]
      rfl
end Go.Proofs.Ytikkknaofiafhaa
