/- TupleReads's walk. -/
import Derived.Test.YtikkknaofiafhaaC11
import Derived.Test.YtikkknaofiafhaaC12
import Derived.Test.YtikkknaofiafhaaC5
namespace Go.Proofs.Ytikkknaofiafhaa
open Go.RowKit

theorem ltrans {a b c : World} (h : Below a.heap.size a b) (k : Below b.heap.size b c) : Below a.heap.size a c := h.trans (k.mono h.size)
theorem decD_length : ∀ (f : Nat) (acc : List Val) (l : List UInt8), (decD f acc l).1.length ≤ acc.length + l.length
  | f, acc, [] => by
    have : decD f acc [] = if 16 < acc.length then ([], 10) else (acc, 0) := by cases f <;> rfl
    rw [this]
    split <;> simp
  | 0, acc, _ :: _ => by simp [decD]
  | f + 1, acc, b :: l => by
    rw [decD]
    cases ht : takeD (b :: l) with
    | inr e => simp
    | inl p =>
      obtain ⟨v, r⟩ := p
      have h1 := decD_length f (acc ++ [v]) r
      have h2 := (takeD_drop ht).1
      simp only [List.length_append, List.length_cons, List.length_nil] at h1 h2 ⊢
      omega
theorem decB_length (l : List UInt8) : (decB l).1.length ≤ l.length := by
  have := decD_length l.length [] l
  simpa [decB] using this
theorem endB_length_le (l : List UInt8) : (endB l).length ≤ l.length := by
  rcases endB_cases l with ⟨h, _⟩ | ⟨p, x, m, _, h, h2⟩
  · rw [h]; simp
  · rw [h2]
    have := congrArg List.length h
    simp at this ⊢
    omega
theorem decPost_0 {l : List UInt8} {vs : List Val} {w w' : World} {e : Ending} (h : decB l = (vs, 0)) (hp : DecPost l w e w') :
    ∃ (A : Option Addr) (c : Nat), e = .returned (.tuple #[.slice A vs.length c, .int .i64 (l.length : Int), .int .i64 0]) ∧ OwnV w.heap.size w' A vs.length c vs ∧ Below w.heap.size w w' := by
  unfold DecPost at hp
  rw [h] at hp
  obtain ⟨A, c, he, ho, hb⟩ := hp
  exact ⟨A, c, by rw [he, if_pos rfl], ho, hb⟩
theorem decPost_e {l : List UInt8} {vs : List Val} {code : Int} {w w' : World} {e : Ending} (h : decB l = (vs, code)) (h0 : code ≠ 0) (hp : DecPost l w e w') :
    ∃ (A : Option Addr) (c : Nat), e = .returned (.tuple #[.slice A vs.length c, .int .i64 0, .int .i64 code]) ∧ OwnV w.heap.size w' A vs.length c vs ∧ Below w.heap.size w w' := by
  unfold DecPost at hp
  rw [h] at hp
  obtain ⟨A, c, he, ho, hb⟩ := hp
  exact ⟨A, c, by rw [he, if_neg h0], ho, hb⟩
theorem rdecPost_of {l : List UInt8} {vs : List Val} {code : Int} {w w' : World} {e : Ending} (h : decB l = (vs, code)) (hp : RDecPost l w e w') :
    ∃ (A : Option Addr) (c : Nat), e = .returned (.tuple #[.slice A vs.length c, .int .i64 code]) ∧ OwnV w.heap.size w' A vs.length c vs ∧ Below w.heap.size w w' := by
  unfold RDecPost at hp
  rw [h] at hp
  exact hp

set_option maxRecDepth 100000 in
set_option maxHeartbeats 3200000 in
theorem lawReads (A : Option Addr) (n c : Nat) (l : List UInt8) (w : World) (hr : Rd w 1 A n (bs l)) (hc : n ≤ c) (hm : n ≤ 140737488351232) :
    Calls Try.prog 11 #[.slice A n c] w fun e w' => e = .returned (.bool true) ∧ Below w.heap.size w w' := by
  have hn : l.length = n := by have := hr.1; simpa using this
  have HN := Lib.hid hn; clear hn
  by_cases h3 : 3000 < n
  · go_enter Try.func11, Try.ntmps11
    go_wp2_with (go_at_call 14; refine (awake_any _).mono ?_; rintro e w1 ⟨rfl, hb1⟩)
    go_ret
    exact ⟨rfl, hb1⟩
  · obtain ⟨⟨vs, code⟩, hD⟩ : ∃ p, decB l = p := ⟨_, rfl⟩
    have hlv : vs.length ≤ n := by have := decB_length l; rw [hD, HN.out] at this; exact this
    have HD := Lib.hid hD; clear hD
    by_cases hc0 : code = 0
    · subst hc0
      go_enter Try.func11, Try.ntmps11
      go_wp2_with fail
      refine (ownByte_any A n c l _ hr (by omega)).mono ?_
      rintro e w1 ⟨⟨g, rfl, hown⟩, hB1⟩
      have rin : Rd w1 1 (some ⟨g, 0, none⟩) (n + 3) (bs (l ++ fill3)) := hown.rd
      have rin0 : Rd w1 1 (some ⟨g, 0, none⟩) n (bs l) := by
        have := rin.take (k := n) (by omega)
        rw [Nat.mul_one, bs_take] at this
        rw [← HN.out, List.take_left' rfl, HN.out] at this
        exact this
      go_wp2_with fail
      refine (dec_any (some ⟨g, 0, none⟩) n (n + 3) l _ rin0 (by omega) (by omega)).mono ?_
      rintro e w2 hp
      obtain ⟨Ad, cd, rfl, od, hb2⟩ := decPost_0 HD.out hp
      clear hp
      rw [HN.out]
      have hB2 := ltrans hB1 hb2
      go_wp2_with fail
      refine (refDec_any A n c l _ (hr.below hB2) (by omega)).mono ?_
      rintro e w3 hp
      obtain ⟨Ae, ce, rfl, oe, hb3⟩ := rdecPost_of HD.out hp
      clear hp
      have hB3 := ltrans hB2 hb3
      have rd3 := od.rd.below hb3
      have re3 := oe.rd
      have rin3 := (rin.below hb2).below hb3
      have rin03 := (rin0.below hb2).below hb3
      go_wp2_with fail
      refine (end_any (some ⟨g, 0, none⟩) n (n + 3) l _ rin03 (by omega) (by omega)).mono ?_
      rintro e w4 ⟨⟨Ax, nx, cx, rfl, ox⟩, hb4⟩
      have hnx : nx ≤ n := by have h1 := ox.len; have h2 := endB_length_le l; have h3 := HN.out; omega
      have hB4 := ltrans hB3 hb4
      go_wp2_with fail
      refine (awake_any _).mono ?_
      rintro e w5 ⟨rfl, hb5⟩
      have hB5 := ltrans hB4 hb5
      have hb45 := ltrans hb4 hb5
      go_wp2_with fail
      refine (plainVal_any Ad vs.length cd Ae vs.length ce vs vs _ (rd3.below hb45) (re3.below hb45) (by omega) (by omega)).mono ?_
      rintro e w6 ⟨rfl, hb6⟩
      rw [leq_self]
      have hB6 := ltrans hB5 hb6
      have hb46 := ltrans hb45 hb6
      go_wp2_with fail
      refine (refEnd_any A n c l _ (hr.below hB6) hc (by omega)).mono ?_
      rintro e w7 ⟨⟨Ay, ny, cy, rfl, oy⟩, hb7⟩
      have hB7 := ltrans hB6 hb7
      have hb47 := ltrans hb46 hb7
      have rx7 := ox.rd.below (ltrans (ltrans hb5 hb6) hb7)
      go_wp2_with fail
      refine (bytes_same Ax Ay nx cx ny cy (endB l) _ rx7 oy.rd).mono ?_
      rintro e w8 ⟨rfl, rfl⟩
      go_wp2_with fail
      refine (keptByte_any g A n c l _ (rin3.below hb47) (hr.below hB7) (by omega)).mono ?_
      rintro e w8 ⟨rfl, hb8⟩
      have hB8 := ltrans hB7 hb8
      have hb48 := ltrans hb47 hb8
      have ox8 : OwnB w3.heap.size w8 Ax nx cx (endB l) := ox.belowB (ltrans (ltrans (ltrans hb5 hb6) hb7) hb8)
      go_wp2_with fail
      refine (spoil_any w3.heap.size Ax nx cx (endB l) _ ox8 (by omega)).mono ?_
      rintro e w9 ⟨rfl, hb9⟩
      have hb49 : Below w3.heap.size w3 w9 := hb48.trans hb9
      have hB9 := hB8.trans (hb9.mono (by have := hB3.size; omega))
      go_wp2_with fail
      refine (keptByte_any g A n c l _ (rin3.below hb49) (hr.below hB9) (by omega)).mono ?_
      rintro e w10 ⟨rfl, hb10⟩
      go_wp2
      go_ret
      exact ⟨rfl, ltrans hB9 hb10⟩
    · have t0 : (code == 0) = false := by simpa using hc0
      have t1 : (code != 0) = true := by simpa using hc0
      have HC := Lib.hid hc0; clear hc0
      go_enter Try.func11, Try.ntmps11
      go_wp2_with fail
      refine (ownByte_any A n c l _ hr (by omega)).mono ?_
      rintro e w1 ⟨⟨g, rfl, hown⟩, hB1⟩
      have rin : Rd w1 1 (some ⟨g, 0, none⟩) (n + 3) (bs (l ++ fill3)) := hown.rd
      have rin0 : Rd w1 1 (some ⟨g, 0, none⟩) n (bs l) := by
        have := rin.take (k := n) (by omega)
        rw [Nat.mul_one, bs_take] at this
        rw [← HN.out, List.take_left' rfl, HN.out] at this
        exact this
      go_wp2_with fail
      refine (dec_any (some ⟨g, 0, none⟩) n (n + 3) l _ rin0 (by omega) (by omega)).mono ?_
      rintro e w2 hp
      obtain ⟨Ad, cd, rfl, od, hb2⟩ := decPost_e HD.out HC.out hp
      clear hp
      have hB2 := ltrans hB1 hb2
      go_wp2_with fail
      refine (refDec_any A n c l _ (hr.below hB2) (by omega)).mono ?_
      rintro e w3 hp
      obtain ⟨Ae, ce, rfl, oe, hb3⟩ := rdecPost_of HD.out hp
      clear hp
      have hB3 := ltrans hB2 hb3
      have rd3 := od.rd.below hb3
      have re3 := oe.rd
      have rin3 := (rin.below hb2).below hb3
      have rin03 := (rin0.below hb2).below hb3
      go_wp2_with fail
      refine (end_any (some ⟨g, 0, none⟩) n (n + 3) l _ rin03 (by omega) (by omega)).mono ?_
      rintro e w4 ⟨⟨Ax, nx, cx, rfl, ox⟩, hb4⟩
      have hnx : nx ≤ n := by have h1 := ox.len; have h2 := endB_length_le l; have h3 := HN.out; omega
      have hB4 := ltrans hB3 hb4
      go_wp2_with fail
      refine (awake_any _).mono ?_
      rintro e w5 ⟨rfl, hb5⟩
      have hB5 := ltrans hB4 hb5
      have hb45 := ltrans hb4 hb5
      go_wp2_with fail
      refine (plainVal_any Ad vs.length cd Ae vs.length ce vs vs _ (rd3.below hb45) (re3.below hb45) (by omega) (by omega)).mono ?_
      rintro e w6 ⟨rfl, hb6⟩
      rw [leq_self]
      have hB6 := ltrans hB5 hb6
      have hb46 := ltrans hb45 hb6
      go_wp2_with fail
      refine (refEnd_any A n c l _ (hr.below hB6) hc (by omega)).mono ?_
      rintro e w7 ⟨⟨Ay, ny, cy, rfl, oy⟩, hb7⟩
      have hB7 := ltrans hB6 hb7
      have hb47 := ltrans hb46 hb7
      have rx7 := ox.rd.below (ltrans (ltrans hb5 hb6) hb7)
      go_wp2_with fail
      refine (bytes_same Ax Ay nx cx ny cy (endB l) _ rx7 oy.rd).mono ?_
      rintro e w8 ⟨rfl, rfl⟩
      go_wp2_with fail
      refine (keptByte_any g A n c l _ (rin3.below hb47) (hr.below hB7) (by omega)).mono ?_
      rintro e w8 ⟨rfl, hb8⟩
      have hB8 := ltrans hB7 hb8
      have hb48 := ltrans hb47 hb8
      have ox8 : OwnB w3.heap.size w8 Ax nx cx (endB l) := ox.belowB (ltrans (ltrans (ltrans hb5 hb6) hb7) hb8)
      go_wp2_with fail
      refine (spoil_any w3.heap.size Ax nx cx (endB l) _ ox8 (by omega)).mono ?_
      rintro e w9 ⟨rfl, hb9⟩
      have hb49 : Below w3.heap.size w3 w9 := hb48.trans hb9
      have hB9 := hB8.trans (hb9.mono (by have := hB3.size; omega))
      go_wp2_with fail
      refine (keptByte_any g A n c l _ (rin3.below hb49) (hr.below hB9) (by omega)).mono ?_
      rintro e w10 ⟨rfl, hb10⟩
      go_wp2
      go_ret
      exact ⟨rfl, ltrans hB9 hb10⟩
end Go.Proofs.Ytikkknaofiafhaa
