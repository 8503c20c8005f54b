/- TupleEnds's walk. -/
import Derived.Test.YtikkknaofiafhaaC5
import Derived.Test.YtikkknaofiafhaaC6
namespace Go.Proofs.Ytikkknaofiafhaa
open Go.RowKit

theorem nlen {w : World} {A : Option Addr} {n : Nat} {l : List UInt8} (h : Rd w 1 A n (bs l)) : l.length = n := by have := h.1; simpa using this

set_option maxRecDepth 100000 in
set_option maxHeartbeats 1600000 in
theorem lawEnds_big (A1 A2 A3 : Option Addr) (n1 c1 n2 c2 n3 c3 : Nat) (w : World) (hbig : 200 < n1 ∨ 200 < n2 ∨ 200 < n3) :
    Calls Try.prog 5 #[.slice A1 n1 c1, .slice A2 n2 c2, .slice A3 n3 c3] w fun e w' => e = .returned (.bool true) ∧ Below w.heap.size w w' := by
  by_cases h1 : 200 < n1
  · go_enter Try.func5, Try.ntmps5
    go_wp2_with fail
    refine (awake_any _).mono ?_
    rintro e w1 ⟨rfl, hb1⟩
    go_wp2_with fail
    refine (awake_any _).mono ?_
    rintro e w2 ⟨rfl, hb2⟩
    go_wp2
    go_ret
    exact ⟨rfl, hb1.trans (hb2.mono hb1.size)⟩
  · by_cases h2 : 200 < n2
    · go_enter Try.func5, Try.ntmps5
      go_wp2_with fail
      refine (awake_any _).mono ?_
      rintro e w1 ⟨rfl, hb1⟩
      go_wp2_with fail
      refine (awake_any _).mono ?_
      rintro e w2 ⟨rfl, hb2⟩
      go_wp2
      go_ret
      exact ⟨rfl, hb1.trans (hb2.mono hb1.size)⟩
    · have h3 : 200 < n3 := by omega
      go_enter Try.func5, Try.ntmps5
      go_wp2_with fail
      refine (awake_any _).mono ?_
      rintro e w1 ⟨rfl, hb1⟩
      go_wp2_with fail
      refine (awake_any _).mono ?_
      rintro e w2 ⟨rfl, hb2⟩
      go_wp2
      go_ret
      exact ⟨rfl, hb1.trans (hb2.mono hb1.size)⟩

set_option maxRecDepth 100000 in
set_option maxHeartbeats 1600000 in
theorem lawEnds (A1 A2 A3 : Option Addr) (n1 c1 n2 c2 n3 c3 : Nat) (l m o : List UInt8) (w : World) (h1 : Rd w 1 A1 n1 (bs l)) (h2 : Rd w 1 A2 n2 (bs m)) (h3 : Rd w 1 A3 n3 (bs o)) (hc1 : n1 ≤ c1) (hc3 : n3 ≤ c3) :
    Calls Try.prog 5 #[.slice A1 n1 c1, .slice A2 n2 c2, .slice A3 n3 c3] w fun e w' => e = .returned (.bool true) ∧ Below w.heap.size w w' := by
  by_cases hbig : 200 < n1 ∨ 200 < n2 ∨ 200 < n3
  · exact lawEnds_big A1 A2 A3 n1 c1 n2 c2 n3 c3 w hbig
  have b1 : n1 ≤ 200 := by omega
  have b2 : n2 ≤ 200 := by omega
  have b3 : n3 ≤ 200 := by omega
  clear hbig
  have HN := Lib.hid (nlen h1)
  go_enter Try.func5, Try.ntmps5
  go_wp2_with fail
  refine (awake_any _).mono ?_
  rintro e w1 ⟨rfl, hb1⟩
  go_wp2_with fail
  refine (end_any A1 n1 c1 l _ (h1.below hb1) hc1 (by omega)).mono ?_
  rintro e w2 ⟨⟨Ae, ne, ce, rfl, hoe⟩, hb2⟩
  have hb2' : Below w.heap.size w w2 := hb1.trans (hb2.mono hb1.size)
  go_wp2_with fail
  refine (copy_any A1 n1 c1 l _ (h1.below hb2') (by omega)).mono ?_
  rintro e w3 ⟨⟨Ac, cc, rfl, hoc⟩, hb3⟩
  have hb3' : Below w.heap.size w w3 := hb2'.trans (hb3.mono hb2'.size)
  rcases endB_cases l with ⟨he, hl⟩ | ⟨p, x, q, hx, hl, he⟩
  · have hne : ne = 0 := by have := hoe.len; rw [he] at this; simpa using this.symm
    subst hne
    have HL := Lib.hid hl; clear hl he
    go_wp2_with (at_builtin; refine wp_append_bytes rfl _ _ rfl w2.heap.size Ac n1 cc l w3 rfl hoc A2 n2 c2 m rfl (h2.below hb3') (by omega) hb3.size ?_; intro Ax cx w4 hox hb4)
    have hb4' : Below w.heap.size w w4 := hb3'.trans (hb4.mono hb2'.size)
    have hr4 := h1.below hb4'
    go_loop [9] (fun j => ∃ k : Nat, k ≤ n1 ∧ j = .int .i64 (k : Int)) (fun j => n1 - (intOf j).toNat)
    case atStart => exact ⟨0, Nat.zero_le _, rfl⟩
    case round =>
      obtain ⟨k, hk, rfl⟩ := hrel
      by_cases hlt : k < n1
      · obtain ⟨b, off, rfl, g1⟩ := hr4.byte (k := k) (by rw [HN.out]; exact hlt)
        have hx : l[k]'(by rw [HN.out]; exact hlt) = 255 := by
          have h5 : l[k]? = some 255 := by rw [HL.out, List.getElem?_replicate, if_pos (by rw [HN.out]; exact hlt)]
          rw [List.getElem?_eq_getElem (by rw [HN.out]; exact hlt)] at h5
          exact Option.some.inj h5
        rw [hx] at g1
        clear hx
        go_wp2
        go_round
        case rel => exact ⟨k + 1, by omega, by go_num⟩
        case measure => simp [intOf]; omega
      · go_wp2
        go_ret
        exact ⟨rfl, hb4'⟩
  · have hne : endB l ≠ [] := by rw [he]; simp
    have hpos : 0 < ne := by
      have h5 := hoe.len
      rcases Nat.eq_zero_or_pos ne with h0 | h0
      · rw [h0] at h5; exact absurd (List.eq_nil_of_length_eq_zero h5) hne
      · exact h0
    have hlt := end_above l m hne
    have hle := end_least l o hne
    clear he hl hx
    have HLT := Lib.hid hlt; clear hlt
    have HLE := Lib.hid hle; clear hle
    have hz : ((ne : Int) == 0) = false := by rw [beq_eq_false_iff_ne]; omega
    obtain ⟨E, hE⟩ : ∃ E, E = endB l := ⟨_, rfl⟩
    rw [← hE] at HLT HLE hoe
    clear hE hne
    go_wp2_with (at_builtin; refine wp_append_bytes rfl _ _ rfl w2.heap.size Ac n1 cc l w3 rfl hoc A2 n2 c2 m rfl (h2.below hb3') (by omega) hb3.size ?_; intro Ax cx w4 hox hb4; have hb4' : Below w.heap.size w w4 := hb3'.trans (hb4.mono hb2'.size); have s1 := run_str (c := cx) (P := Try.prog) 27 9 5 Try.underlying27 Try.underlying5 Try.underlying9 hox.rd; have s2 := run_str (c := ce) (P := Try.prog) 27 9 5 Try.underlying27 Try.underlying5 Try.underlying9 (hoe.rd.below (hb3.trans (hb4.mono (Nat.le_refl _)))); have t1 : Op.bytesLess (str (l ++ m)).toList (str E).toList = true := by rw [str_toList, str_toList]; exact HLT.out)
    refine (begins_any A3 A1 n3 c3 n1 c1 o l _ (h3.below hb4') (h1.below hb4') hc3 (by omega) (by omega)).mono ?_
    rintro e w5 ⟨rfl, hb5⟩
    have hb5' : Below w.heap.size w w5 := hb4'.trans (hb5.mono hb4'.size)
    have u1 := run_str (c := c3) (P := Try.prog) 27 9 5 Try.underlying27 Try.underlying5 Try.underlying9 (h3.below hb5')
    have u2 := run_str (c := c1) (P := Try.prog) 27 9 5 Try.underlying27 Try.underlying5 Try.underlying9 (h1.below hb5')
    have u3 := run_str (c := ce) (P := Try.prog) 27 9 5 Try.underlying27 Try.underlying5 Try.underlying9 (hoe.rd.below ((hb3.trans (hb4.mono (Nat.le_refl _))).trans (hb5.mono (Nat.le_trans hb3.size hb4.size))))
    cases hB : beginsB o l
    · cases hL : Op.bytesLess o l
      · have hG : Op.bytesLess o E = false := by
          rcases HLE.out with h | h | h
          · rw [hB] at h; cases h
          · rw [hL] at h; cases h
          · exact h
        have t2 : Op.bytesLess (str o).toList (str l).toList = false := by rw [str_toList, str_toList]; exact hL
        have t3 : Op.bytesLess (str o).toList (str E).toList = false := by rw [str_toList, str_toList]; exact hG
        clear hG hL hB
        go_wp2
        go_ret
        exact ⟨rfl, hb5'⟩
      · have t2 : Op.bytesLess (str o).toList (str l).toList = true := by rw [str_toList, str_toList]; exact hL
        clear hL hB
        go_wp2
        go_ret
        exact ⟨rfl, hb5'⟩
    · clear hB
      go_wp2
      go_ret
      exact ⟨rfl, hb5'⟩
end Go.Proofs.Ytikkknaofiafhaa
