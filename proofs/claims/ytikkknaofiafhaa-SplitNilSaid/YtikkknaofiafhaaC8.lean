/- Contracts: tuple.text, tuple.take, tuple.Dec. -/
import Derived.Test.YtikkknaofiafhaaC2
import Derived.Test.YtikkknaofiafhaaDec
namespace Go.Proofs.Ytikkknaofiafhaa
open Go.RowKit

/-- text's answer: the text, how many bytes, a code -/
def textR (l : List UInt8) : ByteArray × Int × Int := match textD [] l with | .inl (s, r) => (str s, ((l.length - r.length : Nat) : Int), 0) | .inr e => (⟨#[]⟩, 0, e)
def TextPost (l : List UInt8) (w : World) (e : Ending) (w' : World) : Prop := e = .returned (.tuple #[.string (textR l).1, .int .i64 (textR l).2.1, .int .i64 (textR l).2.2]) ∧ Below w.heap.size w w'

theorem textR_err {l : List UInt8} {e : Int} (h : textD [] l = .inr e) : textR l = (⟨#[]⟩, 0, e) := by rw [textR, h]
theorem textR_ok {l s r : List UInt8} (h : textD [] l = .inl (s, r)) : textR l = (str s, ((l.length - r.length : Nat) : Int), 0) := by rw [textR, h]
theorem textPost_err {l : List UInt8} {c : Int} {w w' : World} (h : textD [] l = .inr c) (hb : Below w.heap.size w w') : TextPost l w (.returned (.tuple #[.string ⟨#[]⟩, .int .i64 0, .int .i64 c])) w' := by
  unfold TextPost; rw [textR_err h]; exact ⟨rfl, hb⟩

set_option maxRecDepth 100000 in
set_option maxHeartbeats 3200000 in
theorem text_any (A : Option Addr) (n c : Nat) (l : List UInt8) (w : World) (hr : Rd w 1 A n (bs l)) (hm : n ≤ 140737488355328) :
    Calls Try.prog 153 #[.slice A n c] w (TextPost l w) := by
  have hn : l.length = n := by have := hr.1; simpa using this
  have HN := Lib.hid hn; clear hn
  go_enter Try.func153, Try.ntmps153
  go_wp2
  go_loopw [5, 6] (fun v j wr => ∃ (k m : Nat) (A' : Option Addr) (c' : Nat) (acc : List UInt8), k ≤ n ∧ m ≤ 20 ∧ v = .slice A' m c' ∧ j = .int .i64 (k : Int) ∧ Below w.heap.size w wr ∧ OwnB w.heap.size wr A' m c' acc ∧ textD [] l = textD acc (l.drop k)) (fun _ j _ => n - (intOf j).toNat)
  case atStart => exact ⟨0, 0, none, 0, [], by omega, by omega, rfl, rfl, Below.refl _ _, OwnB.nil_ _ _, rfl⟩
  case round =>
    obtain ⟨k, m, A', c', acc, hk, hm20, rfl, rfl, hb, hown, hT⟩ := hrel
    have HM := Lib.hid hown.len
    have HT := Lib.hid hT; clear hT
    by_cases hlt : k < n
    · have hlv : k < l.length := by rw [HN.out]; exact hlt
      obtain ⟨b, off, rfl, hlb, g1⟩ := hr.byteB hlv
      have h1 := (hb.cell (p := ⟨b, off + k, none⟩) hlb).trans g1
      clear g1
      have hd := drop_consU l k hlv
      obtain ⟨x, hx⟩ : ∃ x, x = l[k] := ⟨_, rfl⟩
      rw [← hx] at h1 hd
      have HD := Lib.hid hd; clear hd hx
      by_cases hx0 : x = 0
      · have ht : ((x.toNat : Int) == 0) = true := by rw [hx0]; rfl
        have HX := Lib.hid hx0; clear hx0
        by_cases hlast : k + 1 < n
        · have hlv2 : k + 1 < l.length := by rw [HN.out]; exact hlast
          obtain ⟨b2, off2, hA2, _, g2⟩ := hr.byteB hlv2
          simp only [Option.some.injEq, Addr.mk.injEq] at hA2
          obtain ⟨rfl, rfl, _⟩ := hA2
          have h2 := (hb.cell (p := ⟨b, off + (k + 1), none⟩) hlb).trans g2
          clear g2
          have hd := drop_consU l (k + 1) hlv2
          obtain ⟨y, hy⟩ : ∃ y, y = l[k + 1] := ⟨_, rfl⟩
          rw [← hy] at h2 hd
          have HD2 := Lib.hid hd; clear hd hy
          have HE : Hid (textD [] l = if y = 1 then .inl (acc, l.drop (k + 1 + 1)) else if y = 255 then (if 20 < acc.length + 1 then .inr 9 else textD (acc ++ [0]) (l.drop (k + 1 + 1))) else .inr 9) := by
            rw [HT.out, HD.out, HX.out, HD2.out, textD_0]; trivial
          have hne : (((k : Int) + 1) == (n : Int)) = false := by rw [beq_eq_false_iff_ne]; omega
          by_cases hy1 : y = 1
          · have ht2 : ((y.toNat : Int) == 1) = true := by rw [hy1]; rfl
            have hs := run_str (c := c') (P := Try.prog) 27 9 5 Try.underlying27 Try.underlying5 Try.underlying9 hown.rd
            have HE2 := Lib.hid (HE.out.trans (if_pos hy1))
            clear hy1
            go_wp2
            go_ret3
            unfold TextPost
            rw [textR_ok HE2.out]
            refine ⟨?_, hb⟩
            have : l.length - (l.drop (k + 1 + 1)).length = k + 2 := by rw [List.length_drop, HN.out]; omega
            rw [this]
            simp
            omega
          · have ht2 : ((y.toNat : Int) == 1) = false := u8_beq_no (b := 1) hy1
            have HE2 := Lib.hid (HE.out.trans (if_neg hy1))
            clear hy1
            by_cases hy255 : y = 255
            · have ht3 : ((y.toNat : Int) != 255) = false := by rw [hy255]; rfl
              have HE3 := Lib.hid (HE2.out.trans (if_pos hy255))
              clear hy255
              by_cases h20 : 20 < m + 1
              · have HE4 := Lib.hid (HE3.out.trans (if_pos (by rw [HM.out]; exact h20)))
                go_wp2_with (at_builtin; refine wp_append_byte rfl (.tmp 41) _ rfl w.heap.size A' m c' _ wr _ 0 rfl rfl hown rfl (by omega) hb.size ?_; intro A2 c2 w1 hown1 hb1)
                go_ret3
                exact textPost_err HE4.out (hb.trans hb1)
              · have HE4 := Lib.hid (HE3.out.trans (if_neg (by rw [HM.out]; exact h20)))
                go_wp2_with (at_builtin; refine wp_append_byte rfl (.tmp 41) _ rfl w.heap.size A' m c' _ wr _ 0 rfl rfl hown rfl (by omega) hb.size ?_; intro A2 c2 w1 hown1 hb1)
                go_roundw
                case rel => exact ⟨k + 1 + 1, m + 1, A2, c2, acc ++ [0], by omega, by omega, rfl, by go_num, hb.trans hb1, hown1, HE4.out⟩
                case measure => simp [intOf]; omega
            · have ht3 : ((y.toNat : Int) != 255) = true := u8_bne (b := 255) hy255
              have HE3 := Lib.hid (HE2.out.trans (if_neg hy255))
              clear hy255
              go_wp2
              go_ret3
              exact textPost_err HE3.out hb
        · have hne : (((k : Int) + 1) == (n : Int)) = true := by rw [beq_iff_eq]; omega
          have HE : Hid (textD [] l = .inr 8) := by
            have : l.drop (k + 1) = [] := List.drop_of_length_le (by rw [HN.out]; omega)
            rw [HT.out, HD.out, HX.out, this, textD_01]; trivial
          go_wp2
          go_ret3
          exact textPost_err HE.out hb
      · have ht : ((x.toNat : Int) == 0) = false := u8_beq_no (b := 0) hx0
        have HE : Hid (textD [] l = if 20 < acc.length + 1 then .inr 9 else textD (acc ++ [x]) (l.drop (k + 1))) := by
          rw [HT.out, HD.out, textD_c _ _ _ hx0]; trivial
        clear hx0
        by_cases h20 : 20 < m + 1
        · have HE4 := Lib.hid (HE.out.trans (if_pos (by rw [HM.out]; exact h20)))
          go_wp2_with (at_builtin; refine wp_append_byte rfl (.tmp 44) _ rfl w.heap.size A' m c' _ wr _ x rfl rfl hown rfl (by omega) hb.size ?_; intro A2 c2 w1 hown1 hb1)
          go_ret3
          exact textPost_err HE4.out (hb.trans hb1)
        · have HE4 := Lib.hid (HE.out.trans (if_neg (by rw [HM.out]; exact h20)))
          go_wp2_with (at_builtin; refine wp_append_byte rfl (.tmp 44) _ rfl w.heap.size A' m c' _ wr _ x rfl rfl hown rfl (by omega) hb.size ?_; intro A2 c2 w1 hown1 hb1)
          go_roundw
          case rel => exact ⟨k + 1, m + 1, A2, c2, acc ++ [x], by omega, by omega, rfl, by go_num, hb.trans hb1, hown1, HE4.out⟩
          case measure => simp [intOf]; omega
    · have HE : Hid (textD [] l = .inr 8) := by
        have : l.drop k = [] := List.drop_of_length_le (by rw [HN.out]; omega)
        rw [HT.out, this]; trivial
      go_wp2
      go_ret3
      exact textPost_err HE.out hb
end Go.Proofs.Ytikkknaofiafhaa
