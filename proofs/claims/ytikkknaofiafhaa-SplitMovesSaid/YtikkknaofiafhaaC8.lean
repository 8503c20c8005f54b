/- Contracts: tuple.text, tuple.take, tuple.Dec.
Contracts: tuple.take, tuple.Dec. -/
import Derived.Test.YtikkknaofiafhaaC2
import Derived.Test.YtikkknaofiafhaaDec
namespace Go.Proofs.Ytikkknaofiafhaa
open Go.RowKit

/-- text's answer: the text, how many bytes, a code -/
def textR (l : List UInt8) : ByteArray × Int × Int := match textD [] l with | .inl (s, r) => (str s, ((l.length - r.length : Nat) : Int), 0) | .inr e => (⟨#[]⟩, 0, e)
def TextPost (l : List UInt8) (w : World) (e : Ending) (w' : World) : Prop := e = .returned (.tuple #[.string (textR l).1, .int .i64 (textR l).2.1, .int .i64 (textR l).2.2]) ∧ Below w.heap.size w w'

theorem textR_err {l : List UInt8} {e : Int} (h : textD [] l = .inr e) : textR l = (⟨#[]⟩, 0, e) := by rw [textR, h]
theorem textR_ok {l s r : List UInt8} (h : textD [] l = .inl (s, r)) : textR l = (str s, ((l.length - r.length : Nat) : Int), 0) := by rw [textR, h]
theorem textPost_err {l : List UInt8} {c : Int} {w w' : World} (h : textD [] l = .inr c) (hb : Below w.heap.size w w') : TextPost l w (.returned (.tuple #[.string ⟨#[]⟩, .int .i64 0, .int .i64 c])) w' := by
  unfold TextPost; rw [textR_err h]; exact ⟨rfl, hb⟩

set_option maxRecDepth 100000 in
set_option maxHeartbeats 3200000 in
theorem text_any (A : Option Addr) (n c : Nat) (l : List UInt8) (w : World) (hr : Rd w 1 A n (bs l)) (hm : n ≤ 140737488355328) :
    Calls Try.prog 153 #[.slice A n c] w (TextPost l w) := by
  have hn : l.length = n := by have := hr.1; simpa using this
  have HN := Lib.hid hn; clear hn
  go_enter Try.func153, Try.ntmps153
  go_wp2
  go_loopw [5, 6] (fun v j wr => ∃ (k m : Nat) (A' : Option Addr) (c' : Nat) (acc : List UInt8), k ≤ n ∧ m ≤ 20 ∧ v = .slice A' m c' ∧ j = .int .i64 (k : Int) ∧ Below w.heap.size w wr ∧ OwnB w.heap.size wr A' m c' acc ∧ textD [] l = textD acc (l.drop k)) (fun _ j _ => n - (intOf j).toNat)
  case atStart => exact ⟨0, 0, none, 0, [], by omega, by omega, rfl, rfl, Below.refl _ _, OwnB.nil_ _ _, rfl⟩
  case round =>
    obtain ⟨k, m, A', c', acc, hk, hm20, rfl, rfl, hb, hown, hT⟩ := hrel
    have HM := Lib.hid hown.len
    have HT := Lib.hid hT; clear hT
    by_cases hlt : k < n
    · have hlv : k < l.length := by rw [HN.out]; exact hlt
      obtain ⟨b, off, rfl, hlb, g1⟩ := hr.byteB hlv
      have h1 := (hb.cell (p := ⟨b, off + k, none⟩) hlb).trans g1
      clear g1
      have hd := drop_consU l k hlv
      obtain ⟨x, hx⟩ : ∃ x, x = l[k] := ⟨_, rfl⟩
      rw [← hx] at h1 hd
      have HD := Lib.hid hd; clear hd hx
      by_cases hx0 : x = 0
      · have ht : ((x.toNat : Int) == 0) = true := by rw [hx0]; rfl
        have HX := Lib.hid hx0; clear hx0
        by_cases hlast : k + 1 < n
        · have hlv2 : k + 1 < l.length := by rw [HN.out]; exact hlast
          obtain ⟨b2, off2, hA2, _, g2⟩ := hr.byteB hlv2
          simp only [Option.some.injEq, Addr.mk.injEq] at hA2
          obtain ⟨rfl, rfl, _⟩ := hA2
          have h2 := (hb.cell (p := ⟨b, off + (k + 1), none⟩) hlb).trans g2
          clear g2
          have hd := drop_consU l (k + 1) hlv2
          obtain ⟨y, hy⟩ : ∃ y, y = l[k + 1] := ⟨_, rfl⟩
          rw [← hy] at h2 hd
          have HD2 := Lib.hid hd; clear hd hy
          have HE : Hid (textD [] l = if y = 1 then .inl (acc, l.drop (k + 1 + 1)) else if y = 255 then (if 20 < acc.length + 1 then .inr 9 else textD (acc ++ [0]) (l.drop (k + 1 + 1))) else .inr 9) := by
            rw [HT.out, HD.out, HX.out, HD2.out, textD_0]; trivial
          have hne : (((k : Int) + 1) == (n : Int)) = false := by rw [beq_eq_false_iff_ne]; omega
          by_cases hy1 : y = 1
          · have ht2 : ((y.toNat : Int) == 1) = true := by rw [hy1]; rfl
            have hs := run_str (c := c') (P := Try.prog) 27 9 5 Try.underlying27 Try.underlying5 Try.underlying9 hown.rd
            have HE2 := Lib.hid (HE.out.trans (if_pos hy1))
            clear hy1
            go_wp2
            go_ret3
            unfold TextPost
            rw [textR_ok HE2.out]
            refine ⟨?_, hb⟩
            have : l.length - (l.drop (k + 1 + 1)).length = k + 2 := by rw [List.length_drop, HN.out]; omega
            rw [this]
            simp
            omega
          · have ht2 : ((y.toNat : Int) == 1) = false := u8_beq_no (b := 1) hy1
            have HE2 := Lib.hid (HE.out.trans (if_neg hy1))
            clear hy1
            by_cases hy255 : y = 255
            · have ht3 : ((y.toNat : Int) != 255) = false := by rw [hy255]; rfl
              have HE3 := Lib.hid (HE2.out.trans (if_pos hy255))
              clear hy255
              by_cases h20 : 20 < m + 1
              · have HE4 := Lib.hid (HE3.out.trans (if_pos (by rw [HM.out]; exact h20)))
                go_wp2_with (at_builtin; refine wp_append_byte rfl (.tmp 41) _ rfl w.heap.size A' m c' _ wr _ 0 rfl rfl hown rfl (by omega) hb.size ?_; intro A2 c2 w1 hown1 hb1)
                go_ret3
                exact textPost_err HE4.out (hb.trans hb1)
              · have HE4 := Lib.hid (HE3.out.trans (if_neg (by rw [HM.out]; exact h20)))
                go_wp2_with (at_builtin; refine wp_append_byte rfl (.tmp 41) _ rfl w.heap.size A' m c' _ wr _ 0 rfl rfl hown rfl (by omega) hb.size ?_; intro A2 c2 w1 hown1 hb1)
                go_roundw
                case rel => exact ⟨k + 1 + 1, m + 1, A2, c2, acc ++ [0], by omega, by omega, rfl, by go_num, hb.trans hb1, hown1, HE4.out⟩
                case measure => simp [intOf]; omega
            · have ht3 : ((y.toNat : Int) != 255) = true := u8_bne (b := 255) hy255
              have HE3 := Lib.hid (HE2.out.trans (if_neg hy255))
              clear hy255
              go_wp2
              go_ret3
              exact textPost_err HE3.out hb
        · have hne : (((k : Int) + 1) == (n : Int)) = true := by rw [beq_iff_eq]; omega
          have HE : Hid (textD [] l = .inr 8) := by
            have : l.drop (k + 1) = [] := List.drop_of_length_le (by rw [HN.out]; omega)
            rw [HT.out, HD.out, HX.out, this, textD_01]; trivial
          go_wp2
          go_ret3
          exact textPost_err HE.out hb
      · have ht : ((x.toNat : Int) == 0) = false := u8_beq_no (b := 0) hx0
        have HE : Hid (textD [] l = if 20 < acc.length + 1 then .inr 9 else textD (acc ++ [x]) (l.drop (k + 1))) := by
          rw [HT.out, HD.out, textD_c _ _ _ hx0]; trivial
        clear hx0
        by_cases h20 : 20 < m + 1
        · have HE4 := Lib.hid (HE.out.trans (if_pos (by rw [HM.out]; exact h20)))
          go_wp2_with (at_builtin; refine wp_append_byte rfl (.tmp 44) _ rfl w.heap.size A' m c' _ wr _ x rfl rfl hown rfl (by omega) hb.size ?_; intro A2 c2 w1 hown1 hb1)
          go_ret3
          exact textPost_err HE4.out (hb.trans hb1)
        · have HE4 := Lib.hid (HE.out.trans (if_neg (by rw [HM.out]; exact h20)))
          go_wp2_with (at_builtin; refine wp_append_byte rfl (.tmp 44) _ rfl w.heap.size A' m c' _ wr _ x rfl rfl hown rfl (by omega) hb.size ?_; intro A2 c2 w1 hown1 hb1)
          go_roundw
          case rel => exact ⟨k + 1, m + 1, A2, c2, acc ++ [x], by omega, by omega, rfl, by go_num, hb.trans hb1, hown1, HE4.out⟩
          case measure => simp [intOf]; omega
    · have HE : Hid (textD [] l = .inr 8) := by
        have : l.drop k = [] := List.drop_of_length_le (by rw [HN.out]; omega)
        rw [HT.out, this]; trivial
      go_wp2
      go_ret3
      exact textPost_err HE.out hb
end Go.Proofs.Ytikkknaofiafhaa

namespace Go.Proofs.Ytikkknaofiafhaa
open Go.RowKit

/-- take's answer -/
def TakePost (l : List UInt8) (w : World) (e : Ending) (w' : World) : Prop :=
  (match takeD l with
   | .inl (v, r) => e = .returned (.tuple #[v.v, .int .i64 ((l.length - r.length : Nat) : Int), .int .i64 0])
   | .inr c => ∃ (y : Val) (m : Int), e = .returned (.tuple #[y.v, .int .i64 m, .int .i64 c])) ∧ Below w.heap.size w w'
theorem takePost_ok {l r : List UInt8} {v : Val} {w w' : World} {m : Int} (h : takeD l = .inl (v, r)) (hm : m = ((l.length - r.length : Nat) : Int)) (hb : Below w.heap.size w w') :
    TakePost l w (.returned (.tuple #[.agg #[.int .i64 v.k, .int .i64 v.i, .string v.s], .int .i64 m, .int .i64 0])) w' := by
  unfold TakePost; rw [h]; exact ⟨by rw [hm]; rfl, hb⟩
theorem takePost_err {l : List UInt8} {k i : Int} {s : ByteArray} {w w' : World} {m c : Int} (h : takeD l = .inr c) (hb : Below w.heap.size w w') :
    TakePost l w (.returned (.tuple #[.agg #[.int .i64 k, .int .i64 i, .string s], .int .i64 m, .int .i64 c])) w' := by
  unfold TakePost; rw [h]; exact ⟨⟨⟨k, i, s⟩, m, rfl⟩, hb⟩

set_option maxRecDepth 100000 in
set_option maxHeartbeats 800000 in
theorem take_1 (A : Option Addr) (n c : Nat) (x : UInt8) (t : List UInt8) (w : World) (hr : Rd w 1 A n (bs (x :: t))) (hc : n ≤ c) (hm : n ≤ 140737488355328) (h1 : x = 1) :
    Calls Try.prog 105 #[.slice A n c] w (TakePost (x :: t) w) := by
  have hn : (x :: t).length = n := by have := hr.1; simpa using this
  rw [List.length_cons] at hn
  obtain ⟨b, off, rfl, hlb, h0⟩ := hr.byteB (k := 0) (by simp)
  rw [List.getElem_cons_zero, Nat.add_zero] at h0
  have h01 := alloc1 h0
  have hpos : 0 < n := by omega
  have HN := Lib.hid hn; clear hn
  have m0 : markI 0 = 1 := rfl
  have m1 : markI 1 = 2 := rfl
  have m2 : markI 2 = 3 := rfl
  have ht : ((x.toNat : Int) == 1) = true := by rw [h1]; rfl
  have HT : Hid (takeD (x :: t) = .inl (⟨0, 0, ⟨#[]⟩⟩, t)) := by rw [takeD, if_pos h1]; trivial
  clear h1
  go_enter Try.func105, Try.ntmps105
  go_wp2_with (go_at_call 123; refine (mark_any _ _).mono ?_; rintro e w1 ⟨rfl, rfl⟩)
  refine bodyPost_ret (v := .tuple #[.agg #[.int .i64 0, .int .i64 0, .string ⟨#[]⟩], .int .i64 1, .int .i64 0]) (by simp [results, Try.results105, go_sem]) rfl ?_
  exact takePost_ok HT.out (by simp) ((Below.refl _ _).alloc (Nat.le_refl _) _)

set_option maxRecDepth 100000 in
set_option maxHeartbeats 800000 in
theorem take_short (A : Option Addr) (n c : Nat) (x : UInt8) (t : List UInt8) (w : World) (hr : Rd w 1 A n (bs (x :: t))) (hc : n ≤ c) (hm : n ≤ 140737488355328) (h1 : ¬ x = 1) (h2 : x = 2) (h9 : n < 9) :
    Calls Try.prog 105 #[.slice A n c] w (TakePost (x :: t) w) := by
  have hn : (x :: t).length = n := by have := hr.1; simpa using this
  rw [List.length_cons] at hn
  obtain ⟨b, off, rfl, hlb, h0⟩ := hr.byteB (k := 0) (by simp)
  rw [List.getElem_cons_zero, Nat.add_zero] at h0
  have h01 := alloc1 h0
  have hpos : 0 < n := by omega
  have HN := Lib.hid hn; clear hn
  have m0 : markI 0 = 1 := rfl
  have m1 : markI 1 = 2 := rfl
  have m2 : markI 2 = 3 := rfl
  have ht : ((x.toNat : Int) == 1) = false := u8_beq_no (b := 1) h1
  have ht2 : ((x.toNat : Int) == 2) = true := by rw [h2]; rfl
  have HT : Hid (takeD (x :: t) = .inr 8) := by rw [takeD, if_neg h1, if_pos h2, if_pos (by have := HN.out; omega)]; trivial
  clear h1 h2
  go_enter Try.func105, Try.ntmps105
  go_wp2_with (go_at_call 123; refine (mark_any _ _).mono ?_; rintro e w1 ⟨rfl, rfl⟩)
  refine bodyPost_ret (v := .tuple #[.agg #[.int .i64 0, .int .i64 0, .string ⟨#[]⟩], .int .i64 0, .int .i64 8]) (by simp [results, Try.results105, go_sem]) rfl ?_
  exact takePost_err HT.out ((Below.refl _ _).alloc (Nat.le_refl _) _)

set_option maxRecDepth 100000 in
set_option maxHeartbeats 800000 in
theorem take_odd (A : Option Addr) (n c : Nat) (x : UInt8) (t : List UInt8) (w : World) (hr : Rd w 1 A n (bs (x :: t))) (hc : n ≤ c) (hm : n ≤ 140737488355328) (h1 : ¬ x = 1) (h2 : ¬ x = 2) (h3 : ¬ x = 3) :
    Calls Try.prog 105 #[.slice A n c] w (TakePost (x :: t) w) := by
  have hn : (x :: t).length = n := by have := hr.1; simpa using this
  rw [List.length_cons] at hn
  obtain ⟨b, off, rfl, hlb, h0⟩ := hr.byteB (k := 0) (by simp)
  rw [List.getElem_cons_zero, Nat.add_zero] at h0
  have h01 := alloc1 h0
  have hpos : 0 < n := by omega
  have HN := Lib.hid hn; clear hn
  have m0 : markI 0 = 1 := rfl
  have m1 : markI 1 = 2 := rfl
  have m2 : markI 2 = 3 := rfl
  have ht : ((x.toNat : Int) == 1) = false := u8_beq_no (b := 1) h1
  have ht2 : ((x.toNat : Int) == 2) = false := u8_beq_no (b := 2) h2
  have ht3 : ((x.toNat : Int) == 3) = false := u8_beq_no (b := 3) h3
  have HT : Hid (takeD (x :: t) = .inr 9) := by rw [takeD, if_neg h1, if_neg h2, if_neg h3]; trivial
  clear h1 h2 h3
  go_enter Try.func105, Try.ntmps105
  go_wp2_with (go_at_call 123; refine (mark_any _ _).mono ?_; rintro e w1 ⟨rfl, rfl⟩)
  refine bodyPost_ret (v := .tuple #[.agg #[.int .i64 0, .int .i64 0, .string ⟨#[]⟩], .int .i64 0, .int .i64 9]) (by simp [results, Try.results105, go_sem]) rfl ?_
  exact takePost_err HT.out ((Below.refl _ _).alloc (Nat.le_refl _) _)

theorem beNat_small (t : List UInt8) (k : Nat) (h : k < 8) : beNat (t.take k) < 72057594037927936 := by
  have h5 := beNat_lt (t.take k)
  have h6 : (t.take k).length ≤ 7 := by rw [List.length_take]; omega
  have h7 : 256 ^ (t.take k).length ≤ 256 ^ 7 := Nat.pow_le_pow_right (by decide) h6
  have h8 : (256 : Nat) ^ 7 = 72057594037927936 := by decide
  rw [h8] at h7
  exact Nat.lt_of_lt_of_le h5 h7
theorem beNat_small8 (t : List UInt8) : beNat (t.take 8) < 18446744073709551616 := by
  have h5 := beNat_lt (t.take 8)
  have h6 : (t.take 8).length ≤ 8 := List.length_take_le _ _
  have h7 : 256 ^ (t.take 8).length ≤ 256 ^ 8 := Nat.pow_le_pow_right (by decide) h6
  have h8 : (256 : Nat) ^ 8 = 18446744073709551616 := by decide
  rw [h8] at h7
  exact Nat.lt_of_lt_of_le h5 h7

set_option maxRecDepth 100000 in
set_option maxHeartbeats 800000 in
theorem take_int (A : Option Addr) (n c : Nat) (x : UInt8) (t : List UInt8) (w : World) (hr : Rd w 1 A n (bs (x :: t))) (hc : n ≤ c) (hm : n ≤ 140737488355328) (h1 : ¬ x = 1) (h2 : x = 2) (h9 : ¬ n < 9) :
    Calls Try.prog 105 #[.slice A n c] w (TakePost (x :: t) w) := by
  have hn : (x :: t).length = n := by have := hr.1; simpa using this
  rw [List.length_cons] at hn
  obtain ⟨b, off, rfl, hlb, h0⟩ := hr.byteB (k := 0) (by simp)
  rw [List.getElem_cons_zero, Nat.add_zero] at h0
  have h01 := alloc1 h0
  have hpos : 0 < n := by omega
  have HN := Lib.hid hn; clear hn
  have m0 : markI 0 = 1 := rfl
  have m1 : markI 1 = 2 := rfl
  have m2 : markI 2 = 3 := rfl
  have ht : ((x.toNat : Int) == 1) = false := u8_beq_no (b := 1) h1
  have ht2 : ((x.toNat : Int) == 2) = true := by rw [h2]; rfl
  have HT : Hid (takeD (x :: t) = .inl (⟨1, (beNat (t.take 8) : Int) - 9223372036854775808, ⟨#[]⟩⟩, t.drop 8)) := by rw [takeD, if_neg h1, if_pos h2, if_neg (by have := HN.out; omega)]; trivial
  clear h1 h2
  go_enter Try.func105, Try.ntmps105
  go_wp2_with (go_at_call 123; refine (mark_any _ _).mono ?_; rintro e w1 ⟨rfl, rfl⟩)
  go_loop [5, 7, 28] (fun u _ j => ∃ k : Nat, k ≤ 8 ∧ u = .int .u64 ((beNat (t.take k) : Nat) : Int) ∧ j = .int .i64 (k : Int)) (fun _ _ j => 8 - (intOf j).toNat)
  case atStart => exact ⟨0, by omega, rfl, rfl⟩
  case round =>
    obtain ⟨k, hk, rfl, rfl⟩ := hrel
    by_cases hlt : k < 8
    · have hlv : k + 1 < (x :: t).length := by rw [List.length_cons, HN.out]; omega
      obtain ⟨b2, off2, hA2, _, g2⟩ := hr.byteB hlv
      simp only [Option.some.injEq, Addr.mk.injEq] at hA2
      obtain ⟨rfl, rfl, _⟩ := hA2
      rw [List.getElem_cons_succ, show off + (k + 1) = off + 1 + k by omega] at g2
      have g3 := alloc1 g2
      clear g2
      obtain ⟨y, hy⟩ : ∃ y, y = t[k]'(by simpa using hlv) := ⟨_, rfl⟩
      rw [← hy] at g3
      have hS := beNat_small t k hlt
      obtain ⟨U, hU⟩ : ∃ U, U = beNat (t.take k) := ⟨_, rfl⟩
      rw [← hU] at hS
      rw [← hU]
      have HO := Lib.hid (or_step U y hS)
      have HY := Lib.hid hy
      have HU := Lib.hid hU
      clear hy hU hS
      go_wp2
      go_round
      case rel =>
        refine ⟨k + 1, by omega, ?_, by go_num⟩
        rw [HO.out, List.take_succ_eq_append_getElem (by simpa using hlv), beNat_snoc, ← HU.out, ← HY.out]
      case measure => simp [intOf]; omega
    · obtain rfl : k = 8 := by omega
      have HX := Lib.hid (xor63_back _ (beNat_small8 t))
      obtain ⟨U, hU⟩ : ∃ U, U = beNat (t.take 8) := ⟨_, rfl⟩
      rw [← hU] at HX HT
      rw [← hU]
      clear hU
      go_wp2
      refine bodyPost_ret (v := .tuple #[.agg #[.int .i64 1, .int .i64 (wrap64 (bits .xor .u64 (U : Int) 9223372036854775808)), .string ⟨#[]⟩], .int .i64 9, .int .i64 0]) (by simp [results, Try.results105, go_sem]) rfl ?_
      have HX' : wrap64 (bits .xor .u64 (U : Int) 9223372036854775808) = (U : Int) - 9223372036854775808 := by have h := HX.out; rw [IntKind.wrap_i64] at h; unfold wrap64; exact h
      rw [HX']
      exact takePost_ok HT.out (by rw [List.length_cons, List.length_drop]; have := HN.out; omega) ((Below.refl _ _).alloc (Nat.le_refl _) _)

theorem takeD_text {x : UInt8} {t : List UInt8} (h1 : ¬ x = 1) (h2 : ¬ x = 2) (h3 : x = 3) : takeD (x :: t) = match textD [] t with | .inl (s, r) => .inl (⟨2, 0, str s⟩, r) | .inr e => .inr e := by
  rw [takeD, if_neg h1, if_neg h2, if_pos h3]
  cases textD [] t <;> rfl
/-- what textD leaves is no longer than what it got -/
theorem textD_le (l acc s r : List UInt8) (h : textD acc l = .inl (s, r)) : r.length ≤ l.length := by
  fun_induction textD acc l <;> simp_all <;> omega
theorem textD_no0 (l acc : List UInt8) (c : Int) (h : textD acc l = .inr c) : c = 8 ∨ c = 9 := by
  fun_induction textD acc l <;> simp_all
theorem take_textPost {x : UInt8} {t : List UInt8} {w w' : World} (h1 : ¬ x = 1) (h2 : ¬ x = 2) (h3 : x = 3) (hb : Below w.heap.size w w') :
    TakePost (x :: t) w (.returned (.tuple #[.agg #[.int .i64 2, .int .i64 0, .string (textR t).1], .int .i64 ((textR t).2.1 + 1), .int .i64 (textR t).2.2])) w' := by
  unfold TakePost
  rw [takeD_text h1 h2 h3]
  cases hd : textD [] t with
  | inl p =>
    obtain ⟨s, r⟩ := p
    rw [textR_ok hd]
    have := textD_le _ _ _ _ hd
    refine ⟨?_, hb⟩
    have e : (((x :: t).length - r.length : Nat) : Int) = ((t.length - r.length : Nat) : Int) + 1 := by rw [List.length_cons]; omega
    show Ending.returned _ = Ending.returned (.tuple #[_, .int .i64 (((x :: t).length - r.length : Nat) : Int), _])
    rw [e]
    rfl
  | inr e =>
    rw [textR_err hd]
    exact ⟨⟨⟨2, 0, ⟨#[]⟩⟩, _, rfl⟩, hb⟩
/-- a result slot after a call -/
theorem slot_kept {w w1 : World} {T : TypeId} (hb : Below (w.alloc (.cells #[.int .i64 0, .int .i64 0, .string ⟨#[]⟩] T)).heap.size (w.alloc (.cells #[.int .i64 0, .int .i64 0, .string ⟨#[]⟩] T)) w1) :
    (w1.cell? ⟨w.heap.size, 0, none⟩ = some (.int .i64 0) ∧ w1.cell? ⟨w.heap.size, 1, none⟩ = some (.int .i64 0) ∧ w1.cell? ⟨w.heap.size, 2, none⟩ = some (.string ⟨#[]⟩)) ∧
    (w1.frozen? ⟨w.heap.size, 0, none⟩ = false ∧ w1.frozen? ⟨w.heap.size, 1, none⟩ = false ∧ w1.frozen? ⟨w.heap.size, 2, none⟩ = false) ∧ Below w.heap.size w w1 ∧ w.heap.size < w1.heap.size := by
  have hl : w.heap.size < (w.alloc (.cells #[.int .i64 0, .int .i64 0, .string ⟨#[]⟩] T)).heap.size := by simp [World.size_alloc]
  refine ⟨⟨?_, ?_, ?_⟩, ⟨?_, ?_, ?_⟩, ((Below.refl _ _).alloc (Nat.le_refl _) _).trans (hb.mono (by omega)), Nat.lt_of_lt_of_le hl hb.size⟩
  · exact (hb.cell (p := ⟨w.heap.size, 0, none⟩) hl).trans (by simp)
  · exact (hb.cell (p := ⟨w.heap.size, 1, none⟩) hl).trans (by simp)
  · exact (hb.cell (p := ⟨w.heap.size, 2, none⟩) hl).trans (by simp)
  · exact (hb.frozen (p := ⟨w.heap.size, 0, none⟩) hl).trans (by simp)
  · exact (hb.frozen (p := ⟨w.heap.size, 1, none⟩) hl).trans (by simp)
  · exact (hb.frozen (p := ⟨w.heap.size, 2, none⟩) hl).trans (by simp)
theorem slot_set {w1 : World} {g : Nat} {y0 y1 y2 : Value} (x0 x1 x2 : Value) (c0 : w1.cell? ⟨g, 0, none⟩ = some y0) (c1 : w1.cell? ⟨g, 1, none⟩ = some y1) (c2 : w1.cell? ⟨g, 2, none⟩ = some y2) :
    (w1.setCell ⟨g, 0, none⟩ x0).cell? ⟨g, 0, none⟩ = some x0 ∧ ((w1.setCell ⟨g, 0, none⟩ x0).setCell ⟨g, 1, none⟩ x1).cell? ⟨g, 1, none⟩ = some x1 ∧ (((w1.setCell ⟨g, 0, none⟩ x0).setCell ⟨g, 1, none⟩ x1).setCell ⟨g, 2, none⟩ x2).cell? ⟨g, 2, none⟩ = some x2 := by
  refine ⟨World.cell?_setCell_same _ _ _ c0, World.cell?_setCell_same _ _ _ (u := y1) ?_, World.cell?_setCell_same _ _ _ (u := y2) ?_⟩
  · rw [World.cell?_setCell_other _ _ _ _ (by simp)]; exact c1
  · rw [World.cell?_setCell_other _ _ _ _ (by simp), World.cell?_setCell_other _ _ _ _ (by simp)]; exact c2
theorem textR_q (t : List UInt8) : 0 ≤ (textR t).2.1 ∧ (textR t).2.1 ≤ t.length := by
  unfold textR
  split
  · exact ⟨by simp, by simp⟩
  · simp

set_option maxRecDepth 100000 in
set_option maxHeartbeats 800000 in
theorem take_text (A : Option Addr) (n c : Nat) (x : UInt8) (t : List UInt8) (w : World) (hr : Rd w 1 A n (bs (x :: t))) (hc : n ≤ c) (hm : n ≤ 140737488355328) (h1 : ¬ x = 1) (h2 : ¬ x = 2) (h3 : x = 3) :
    Calls Try.prog 105 #[.slice A n c] w (TakePost (x :: t) w) := by
  have hn : (x :: t).length = n := by have := hr.1; simpa using this
  rw [List.length_cons] at hn
  obtain ⟨b, off, hA, hlb, h0⟩ := hr.byteB (k := 0) (by simp)
  rw [List.getElem_cons_zero, Nat.add_zero] at h0
  have h01 := alloc1 h0
  have hpos : 0 < n := by omega
  have HRD : Hid (∀ w', Below w.heap.size w w' → Rd w' 1 (if c = 1 then A else A.map (·.add (1 * 1))) (n - 1) (bs t)) := by
    intro w' hb
    have := (hr.below hb).drop (k := 1) hpos hc
    rw [bs_drop] at this
    exact this
  clear hr
  have HQ := Lib.hid (textR_q t)
  have HB : Hid (∀ w', Below w.heap.size w w' → TakePost (x :: t) w (.returned (.tuple #[.agg #[.int .i64 2, .int .i64 0, .string (textR t).1], .int .i64 ((textR t).2.1 + 1), .int .i64 (textR t).2.2])) w') := fun w' hb => take_textPost h1 h2 h3 hb
  subst hA
  have m0 : markI 0 = 1 := rfl
  have m1 : markI 1 = 2 := rfl
  have m2 : markI 2 = 3 := rfl
  have ht : ((x.toNat : Int) == 1) = false := u8_beq_no (b := 1) h1
  have ht2 : ((x.toNat : Int) == 2) = false := u8_beq_no (b := 2) h2
  have ht3 : ((x.toNat : Int) == 3) = true := by rw [h3]; rfl
  clear h1 h2 h3
  by_cases hc1 : c = 1
  · subst hc1
    have hn1 : n = 1 := by omega
    have HN := Lib.hid hn; clear hn
    rw [if_pos rfl] at HRD
    subst hn1
    go_enter Try.func105, Try.ntmps105
    go_wp2_with (first
      | (go_at_call 123; refine (mark_any _ _).mono ?_; rintro e w1 ⟨rfl, rfl⟩)
      | (go_at_call 153
         refine (text_any _ _ _ t _ (HRD.out _ ((Below.refl _ _).alloc (Nat.le_refl _) _)) (by omega)).mono ?_
         rintro e w1 ⟨rfl, hb⟩
         obtain ⟨⟨c0, c1, c2⟩, ⟨f0, f1, f2⟩, hb1, hsz⟩ := slot_kept hb
         clear hb
         revert HQ HB
         generalize textR t = T
         obtain ⟨sv, qv, cd⟩ := T
         intro HQ HB))
    have e1 : wrap64 (qv + 1) = qv + 1 := by
      have hq : 0 ≤ qv ∧ qv ≤ (t.length : Int) := HQ.out
      have hn := HN.out
      unfold wrap64
      omega
    rw [e1]
    obtain ⟨d0, d1, d2⟩ := slot_set (.int .i64 2) (.int .i64 0) (.string sv) c0 c1 c2
    refine bodyPost_ret (v := .tuple #[.agg #[.int .i64 2, .int .i64 0, .string sv], .int .i64 (qv + 1), .int .i64 cd]) (by simp [results, Try.results105, go_sem, d0, d1, d2]) rfl ?_
    exact HB.out _ (((hb1.setCell (Nat.le_refl _) _).setCell (Nat.le_refl _) _).setCell (Nat.le_refl _) _)
  · have HN := Lib.hid hn; clear hn
    rw [if_neg hc1] at HRD
    go_enter Try.func105, Try.ntmps105
    go_wp2_with (first
      | (go_at_call 123; refine (mark_any _ _).mono ?_; rintro e w1 ⟨rfl, rfl⟩)
      | (go_at_call 153
         refine (text_any _ _ _ t _ (HRD.out _ ((Below.refl _ _).alloc (Nat.le_refl _) _)) (by omega)).mono ?_
         rintro e w1 ⟨rfl, hb⟩
         obtain ⟨⟨c0, c1, c2⟩, ⟨f0, f1, f2⟩, hb1, hsz⟩ := slot_kept hb
         clear hb
         revert HQ HB
         generalize textR t = T
         obtain ⟨sv, qv, cd⟩ := T
         intro HQ HB))
    have e1 : wrap64 (qv + 1) = qv + 1 := by
      have hq : 0 ≤ qv ∧ qv ≤ (t.length : Int) := HQ.out
      have hn := HN.out
      unfold wrap64
      omega
    rw [e1]
    obtain ⟨d0, d1, d2⟩ := slot_set (.int .i64 2) (.int .i64 0) (.string sv) c0 c1 c2
    refine bodyPost_ret (v := .tuple #[.agg #[.int .i64 2, .int .i64 0, .string sv], .int .i64 (qv + 1), .int .i64 cd]) (by simp [results, Try.results105, go_sem, d0, d1, d2]) rfl ?_
    exact HB.out _ (((hb1.setCell (Nat.le_refl _) _).setCell (Nat.le_refl _) _).setCell (Nat.le_refl _) _)

theorem take_any (A : Option Addr) (n c : Nat) (l : List UInt8) (w : World) (hl : l ≠ []) (hr : Rd w 1 A n (bs l)) (hc : n ≤ c) (hm : n ≤ 140737488355328) :
    Calls Try.prog 105 #[.slice A n c] w (TakePost l w) := by
  cases l with
  | nil => exact absurd rfl hl
  | cons x t =>
    by_cases h1 : x = 1
    · exact take_1 A n c x t w hr hc hm h1
    · by_cases h2 : x = 2
      · by_cases h9 : n < 9
        · exact take_short A n c x t w hr hc hm h1 h2 h9
        · exact take_int A n c x t w hr hc hm h1 h2 h9
      · by_cases h3 : x = 3
        · exact take_text A n c x t w hr hc hm h1 h2 h3
        · exact take_odd A n c x t w hr hc hm h1 h2 h3

end Go.Proofs.Ytikkknaofiafhaa
