/- Contract: armoireref03.Dec. -/
import Derived.Test.YtikkknaofiafhaaC10
namespace Go.Proofs.Ytikkknaofiafhaa
open Go.RowKit

/-- the document's Dec's answer -/
def RDecPost (l : List UInt8) (w : World) (e : Ending) (w' : World) : Prop :=
  ∃ (A : Option Addr) (c : Nat), e = .returned (.tuple #[.slice A (decB l).1.length c, .int .i64 (decB l).2]) ∧ OwnV w.heap.size w' A (decB l).1.length c (decB l).1 ∧ Below w.heap.size w w'
theorem rdecPost_err {l : List UInt8} {c : Int} {w w' : World} (h : decB l = ([], c)) (hb : Below w.heap.size w w') : RDecPost l w (.returned (.tuple #[.slice none 0 0, .int .i64 c])) w' := by
  unfold RDecPost
  rw [h]
  exact ⟨none, 0, rfl, OwnV.nil_ _ _, hb⟩
theorem rdecPost_ok {l : List UInt8} {a : List Val} {A : Option Addr} {m c : Nat} {w w' : World} (h : decB l = (a, 0)) (hm : a.length = m) (ho : OwnV w.heap.size w' A m c a) (hb : Below w.heap.size w w') : RDecPost l w (.returned (.tuple #[.slice A m c, .int .i64 0])) w' := by
  unfold RDecPost
  rw [h]
  subst hm
  exact ⟨A, c, rfl, ho, hb⟩
theorem decD_err {f : Nat} {acc : List Val} {l : List UInt8} {c : Int} (h : takeD l = .inr c) (hl : l ≠ []) : decD (f + 1) acc l = ([], c) := by
  cases l with
  | nil => exact absurd rfl hl
  | cons x t => rw [decD, h]
theorem decD_ok {f : Nat} {acc : List Val} {l r : List UInt8} {v : Val} (h : takeD l = .inl (v, r)) (hl : l ≠ []) : decD (f + 1) acc l = decD f (acc ++ [v]) r := by
  cases l with
  | nil => exact absurd rfl hl
  | cons x t => rw [decD, h]

set_option maxRecDepth 100000 in
set_option maxHeartbeats 3200000 in
theorem refDec_any (A : Option Addr) (n c : Nat) (l : List UInt8) (w : World) (hr : Rd w 1 A n (bs l)) (hm : n ≤ 4398046511104) :
    Calls Try.prog 46 #[.slice A n c] w (RDecPost l w) := by
  have hn : l.length = n := by have := hr.1; simpa using this
  have HN := Lib.hid hn; clear hn
  go_enter Try.func46, Try.ntmps46
  go_wp2
  go_loopw [4, 5] (fun v j wr => ∃ (k m f : Nat) (A' : Option Addr) (c' : Nat) (acc : List Val), k ≤ n ∧ m ≤ k ∧ n - k ≤ f ∧ v = .slice A' m c' ∧ j = .int .i64 (k : Int) ∧ Below w.heap.size w wr ∧ OwnV w.heap.size wr A' m c' acc ∧ decB l = decD f acc (l.drop k)) (fun _ j _ => n - (intOf j).toNat)
  case atStart => exact ⟨0, 0, n, none, 0, [], by omega, by omega, by omega, rfl, rfl, Below.refl _ _, OwnV.nil_ _ _, by rw [decB, HN.out]; rfl⟩
  case round =>
    obtain ⟨k, m, f, A', c', acc, hk, hmk, hf, rfl, rfl, hb, hown, hT⟩ := hrel
    have HM := Lib.hid hown.len
    have HT := Lib.hid hT; clear hT
    by_cases hlt : k < n
    · have hlv : k < l.length := by rw [HN.out]; exact hlt
      obtain ⟨b, off, hA, hlb, g0⟩ := hr.byteB hlv
      have h0 := (hb.cell (p := ⟨b, off + k, none⟩) hlb).trans g0
      clear g0
      obtain ⟨f, rfl⟩ : ∃ f', f = f' + 1 := ⟨f - 1, by omega⟩
      have hd := drop_consU l k hlv
      obtain ⟨x, hx⟩ : ∃ x, x = l[k] := ⟨_, rfl⟩
      rw [← hx] at h0 hd
      have hne : l.drop k ≠ [] := by rw [hd]; simp
      have HD := Lib.hid hd
      have HNE := Lib.hid hne
      clear hd hx hne
      by_cases h1 : x = 1
      · have h0' : wr.cell? ⟨b, off + k, none⟩ = some (.int .u8 1) := by rw [h0, h1]; rfl
        have HTK : Hid (takeD (l.drop k) = .inl (⟨0, 0, ⟨#[]⟩⟩, l.drop (k + 1))) := by rw [HD.out, takeD, if_pos h1]; trivial
        clear h0 h1
        subst hA
        have hbs := hb.size
        go_wp2_with (at_builtin; refine wp_append_val rfl (.tmp 100) (.tmp 102) rfl w.heap.size A' m c' _ _ ⟨0, 0, ⟨#[]⟩⟩ rfl (hown.alloc _) (by rw [World.size_alloc]; rfl) (by omega) (by simp only [World.size_alloc]; omega) ?_; intro A2 c2 w2 hown2 hb2; have hb2' := (hb.alloc hb.size _).trans hb2)
        go_roundw
        case rel => exact ⟨k + 1, m + 1, f, A2, c2, _, by omega, by omega, by omega, rfl, by go_num, hb2', hown2, by rw [HT.out, decD_ok HTK.out HNE.out]⟩
        case measure => simp [intOf]; omega
      · by_cases h2 : x = 2
        · have h0' : wr.cell? ⟨b, off + k, none⟩ = some (.int .u8 2) := by rw [h0, h2]; rfl
          by_cases h9 : n - k < 9
          · have h9' : (n : Int) < (k : Int) + 9 := by omega
            have HTK : Hid (takeD (l.drop k) = .inr 8) := by
              rw [HD.out, takeD, if_neg h1, if_pos h2, if_pos (by rw [List.length_drop, HN.out]; omega)]; trivial
            clear h0 h1 h2
            subst hA
            go_wp2
            go_ret2
            exact rdecPost_err (by rw [HT.out, decD_err HTK.out HNE.out]) (hb.alloc hb.size _)
          · have HTK : Hid (takeD (l.drop k) = .inl (⟨1, (beNat ((l.drop (k + 1)).take 8) : Int) - 9223372036854775808, ⟨#[]⟩⟩, l.drop (k + 9))) := by
              rw [HD.out, takeD, if_neg h1, if_pos h2, if_neg (by rw [List.length_drop, HN.out]; omega), List.drop_drop]; trivial
            clear h0 h1 h2
            subst hA
            have hbs := hb.size
            go_wp2
            go_loop [7, 8] (fun u j => ∃ q : Nat, q ≤ 8 ∧ u = .int .u64 ((beNat ((l.drop (k + 1)).take q) : Nat) : Int) ∧ j = .int .i64 (q : Int)) (fun _ j => 8 - (intOf j).toNat)
            case atStart => exact ⟨0, by omega, rfl, rfl⟩
            case round =>
              obtain ⟨q, hq, rfl, rfl⟩ := hrel
              by_cases hq8 : q < 8
              · have hlv2 : k + 1 + q < l.length := by rw [HN.out]; omega
                obtain ⟨b2, off2, hA2, _, g2⟩ := hr.byteB hlv2
                simp only [Option.some.injEq, Addr.mk.injEq] at hA2
                obtain ⟨rfl, rfl, _⟩ := hA2
                have g3 := (hb.cell (p := ⟨b, off + (k + 1 + q), none⟩) hlb).trans g2
                have g4 := alloc1 g3
                clear g2 g3
                obtain ⟨y, hy⟩ : ∃ y, y = l[k + 1 + q] := ⟨_, rfl⟩
                rw [← hy] at g4
                have hS := beNat_small (l.drop (k + 1)) q hq8
                obtain ⟨U, hU⟩ : ∃ U, U = beNat ((l.drop (k + 1)).take q) := ⟨_, rfl⟩
                rw [← hU] at hS
                rw [← hU]
                have HO := Lib.hid (or_step U y hS)
                have HY := Lib.hid hy
                have HU := Lib.hid hU
                clear hy hU hS
                go_wp2
                go_round
                case rel =>
                  refine ⟨q + 1, by omega, ?_, by go_num⟩
                  rw [HO.out, List.take_succ_eq_append_getElem (by rw [List.length_drop, HN.out]; omega), beNat_snoc, ← HU.out, List.getElem_drop, ← HY.out]
                case measure => simp [intOf]; omega
              · obtain rfl : q = 8 := by omega
                have HX := Lib.hid (xor63_back _ (beNat_small8 (l.drop (k + 1))))
                obtain ⟨U, hU⟩ : ∃ U, U = beNat ((l.drop (k + 1)).take 8) := ⟨_, rfl⟩
                rw [← hU] at HX HTK
                rw [← hU]
                clear hU
                go_wp2_with (at_builtin; refine wp_append_val rfl (.tmp 100) (.tmp 102) rfl w.heap.size A' m c' _ _ ⟨1, wrap64 (bits .xor .u64 (U : Int) 9223372036854775808), ⟨#[]⟩⟩ rfl (hown.alloc _) (by rw [World.size_alloc]; rfl) (by omega) (by simp only [World.size_alloc]; omega) ?_; intro A2 c2 w2 hown2 hb2; have hb2' := (hb.alloc hb.size _).trans hb2)
                have HX' : Hid (wrap64 (bits .xor .u64 (U : Int) 9223372036854775808) = (U : Int) - 9223372036854775808) := by have h := HX.out; rw [IntKind.wrap_i64] at h; unfold wrap64; exact h
                rw [HX'.out] at hown2
                go_roundw
                case rel => exact ⟨k + 9, m + 1, f, A2, c2, _, by omega, by omega, by omega, rfl, by go_num, hb2', hown2, by rw [HT.out, decD_ok HTK.out HNE.out]⟩
                case measure => simp [intOf]; omega
        · by_cases h3 : x = 3
          · have h0' : wr.cell? ⟨b, off + k, none⟩ = some (.int .u8 3) := by rw [h0, h3]; rfl
            have HTD : Hid (takeD (l.drop k) = match textD [] (l.drop (k + 1)) with | .inl (s, r) => .inl (⟨2, 0, str s⟩, r) | .inr e => .inr e) := by
              rw [HD.out]; exact takeD_text h1 h2 h3
            clear h0 h1 h2 h3
            subst hA
            have hbs := hb.size
            obtain ⟨wo, rfl⟩ : ∃ wo : World, wo = wr := ⟨_, rfl⟩
            have hZ : ∀ (acc : List UInt8), textD acc [] = .inr 8 := fun acc => by unfold textD; rfl
            have HZ := Lib.hid hZ; clear hZ
            go_wp2
            go_loopw [5, 9] (fun j v wr => ∃ (q m3 : Nat) (A3 : Option Addr) (c3 : Nat) (acc3 : List UInt8), k + 1 ≤ q ∧ q ≤ n ∧ m3 ≤ 20 ∧ j = .int .i64 (q : Int) ∧ v = .slice A3 m3 c3 ∧ Below (wo.heap.size + 1) (wo.alloc (.cells #[.int .i64 2, .int .i64 0, .string ⟨#[]⟩] 24)) wr ∧ wo.heap.size + 1 ≤ wr.heap.size ∧ OwnB (wo.heap.size + 1) wr A3 m3 c3 acc3 ∧ textD [] (l.drop (k + 1)) = textD acc3 (l.drop q)) (fun j _ _ => n - (intOf j).toNat)
            case atStart => exact ⟨k + 1, 0, none, 0, [], by omega, by omega, by omega, by go_num, rfl, Below.refl _ _, by simp, OwnB.nil_ _ _, rfl⟩
            case round =>
              obtain ⟨q, m3, A3, c3, acc3, hq1, hq2, hm3, rfl, rfl, hbl, hsl, hown3, hT3⟩ := hrel
              have HM3 := Lib.hid hown3.len
              have HT3 := Lib.hid hT3; clear hT3
              have hbw : Below wo.heap.size wo wr := ((Below.refl _ _).alloc (Nat.le_refl _) _).trans (hbl.mono (by simp))
              have hB : Below w.heap.size w wr := hb.trans (hbw.mono hbs)
              by_cases hlt3 : q < n
              · have hlv3 : q < l.length := by rw [HN.out]; exact hlt3
                obtain ⟨b2, off2, hA2, _, g2⟩ := hr.byteB hlv3
                simp only [Option.some.injEq, Addr.mk.injEq] at hA2
                obtain ⟨rfl, rfl, _⟩ := hA2
                have g3 := (hB.cell (p := ⟨b, off + q, none⟩) hlb).trans g2
                clear g2
                have hd := drop_consU l q hlv3
                obtain ⟨y, hy⟩ : ∃ y, y = l[q] := ⟨_, rfl⟩
                rw [← hy] at g3 hd
                have HD3 := Lib.hid hd; clear hd hy
                have hqn : ((q : Int) == (n : Int)) = false := by rw [beq_eq_false_iff_ne]; omega
                by_cases hy0 : y = 0
                · have ht : ((y.toNat : Int) == 0) = true := by rw [hy0]; rfl
                  have HY0 := Lib.hid hy0; clear hy0
                  by_cases hlast : q + 1 < n
                  · have hlv4 : q + 1 < l.length := by rw [HN.out]; exact hlast
                    obtain ⟨b4, off4, hA4, _, g4⟩ := hr.byteB hlv4
                    simp only [Option.some.injEq, Addr.mk.injEq] at hA4
                    obtain ⟨rfl, rfl, _⟩ := hA4
                    have g5 := (hB.cell (p := ⟨b, off + (q + 1), none⟩) hlb).trans g4
                    clear g4
                    have hd := drop_consU l (q + 1) hlv4
                    obtain ⟨z, hz⟩ : ∃ z, z = l[q + 1] := ⟨_, rfl⟩
                    rw [← hz] at g5 hd
                    have HD4 := Lib.hid hd; clear hd hz
                    have HE : Hid (textD [] (l.drop (k + 1)) = if z = 1 then .inl (acc3, l.drop (q + 1 + 1)) else if z = 255 then (if 20 < acc3.length + 1 then .inr 9 else textD (acc3 ++ [0]) (l.drop (q + 1 + 1))) else .inr 9) := by
                      rw [HT3.out, HD3.out, HY0.out, HD4.out, textD_0]; trivial
                    have hqn2 : (((q : Int) + 1) == (n : Int)) = false := by rw [beq_eq_false_iff_ne]; omega
                    by_cases hz1 : z = 1
                    · have ht2 : ((z.toNat : Int) == 1) = true := by rw [hz1]; rfl
                      have HTK : Hid (takeD (l.drop k) = .inl (⟨2, 0, str acc3⟩, l.drop (q + 2))) := by rw [HTD.out, HE.out, if_pos hz1]; trivial
                      clear hz1
                      have hs := run_str (c := c3) (P := Try.prog) 27 9 5 Try.underlying27 Try.underlying5 Try.underlying9 hown3.rd
                      obtain ⟨v0, v1, v2⟩ : wr.cell? ⟨wo.heap.size, 0, none⟩ = some (.int .i64 2) ∧ wr.cell? ⟨wo.heap.size, 1, none⟩ = some (.int .i64 0) ∧ wr.cell? ⟨wo.heap.size, 2, none⟩ = some (.string ⟨#[]⟩) :=
                        ⟨(hbl.cell (p := ⟨wo.heap.size, 0, none⟩) (by simp)).trans (by simp), (hbl.cell (p := ⟨wo.heap.size, 1, none⟩) (by simp)).trans (by simp), (hbl.cell (p := ⟨wo.heap.size, 2, none⟩) (by simp)).trans (by simp)⟩
                      have vf : wr.frozen? ⟨wo.heap.size, 2, none⟩ = false := (hbl.frozen (p := ⟨wo.heap.size, 2, none⟩) (by simp)).trans (by simp)
                      have hown4 : OwnV w.heap.size (wr.setCell ⟨wo.heap.size, 2, none⟩ (.string (str acc3))) A' m c' acc := ownV_below hown (hbw.setCell (Nat.le_refl _) _)
                      have hbs4 : w.heap.size ≤ wr.heap.size := by omega
                      go_wp2_with (at_builtin; refine wp_append_val rfl (.tmp 100) (.tmp 102) rfl w.heap.size A' m c' _ _ ⟨2, 0, str acc3⟩ rfl hown4 (by rw [World.size_setCell]; rfl) (by omega) (by rw [World.size_setCell]; exact hbs4) ?_; intro A2 c2 w2 hown2 hb2; have hb2' := (hB.setCell hbs _).trans hb2)
                      go_roundw
                      case rel => exact ⟨q + 2, m + 1, f, A2, c2, _, by omega, by omega, by omega, rfl, by go_num, hb2', hown2, by rw [HT.out, decD_ok HTK.out HNE.out]⟩
                      case measure => simp [intOf]; omega
                    · have ht2 : ((z.toNat : Int) == 1) = false := u8_beq_no (b := 1) hz1
                      by_cases hz2 : z = 255
                      · have ht3 : ((z.toNat : Int) != 255) = false := by rw [hz2]; rfl
                        have HE3 := Lib.hid (HE.out.trans ((if_neg hz1).trans (if_pos hz2)))
                        clear hz1 hz2
                        have g6 : ((y.toNat : Int)) = 0 := by rw [HY0.out]; rfl
                        have HG6 := Lib.hid g6; clear g6
                        by_cases h20 : 20 < m3 + 1
                        · have HTK : Hid (takeD (l.drop k) = .inr 9) := by rw [HTD.out, HE3.out, if_pos (by rw [HM3.out]; exact h20)]; trivial
                          go_wp2_with (at_builtin; refine wp_append_byte rfl (.tmp 90) _ rfl (wo.heap.size + 1) A3 m3 c3 _ wr _ y rfl rfl hown3 rfl (by omega) hsl ?_; intro A5 c5 w5 hown5 hb5)
                          go_ret2
                          exact rdecPost_err (by rw [HT.out, decD_err HTK.out HNE.out]) (hB.trans (hb5.mono (by omega)))
                        · have HE4 : Hid (textD [] (l.drop (k + 1)) = textD (acc3 ++ [0]) (l.drop (q + 2))) := by rw [HE3.out, if_neg (by rw [HM3.out]; exact h20)]; trivial
                          go_wp2_with (at_builtin; refine wp_append_byte rfl (.tmp 90) _ rfl (wo.heap.size + 1) A3 m3 c3 _ wr _ y rfl rfl hown3 rfl (by omega) hsl ?_; intro A5 c5 w5 hown5 hb5)
                          go_roundw
                          case rel => exact ⟨q + 2, m3 + 1, A5, c5, acc3 ++ [y], by omega, by omega, by omega, by go_num, rfl, hbl.trans hb5, Nat.le_trans hsl hb5.size, hown5, by rw [HE4.out, HY0.out]⟩
                          case measure => simp [intOf]; omega
                      · have ht3 : ((z.toNat : Int) != 255) = true := u8_bne (b := 255) hz2
                        have HTK : Hid (takeD (l.drop k) = .inr 9) := by rw [HTD.out, HE.out, if_neg hz1, if_neg hz2]; trivial
                        clear hz1 hz2
                        go_wp2
                        go_ret2
                        exact rdecPost_err (by rw [HT.out, decD_err HTK.out HNE.out]) hB
                  · have hqn2 : (((q : Int) + 1) == (n : Int)) = true := by rw [beq_iff_eq]; omega
                    have HTK : Hid (takeD (l.drop k) = .inr 8) := by
                      rw [HTD.out, HT3.out, HD3.out, HY0.out, List.drop_of_length_le (i := q + 1) (by rw [HN.out]; omega), textD_01]; trivial
                    go_wp2
                    go_ret2
                    exact rdecPost_err (by rw [HT.out, decD_err HTK.out HNE.out]) hB
                · have ht : ((y.toNat : Int) == 0) = false := u8_beq_no (b := 0) hy0
                  have HE : Hid (textD [] (l.drop (k + 1)) = if 20 < acc3.length + 1 then .inr 9 else textD (acc3 ++ [y]) (l.drop (q + 1))) := by
                    rw [HT3.out, HD3.out, textD_c _ _ _ hy0]; trivial
                  clear hy0
                  by_cases h20 : 20 < m3 + 1
                  · have HTK : Hid (takeD (l.drop k) = .inr 9) := by rw [HTD.out, HE.out, if_pos (by rw [HM3.out]; exact h20)]; trivial
                    go_wp2_with (at_builtin; refine wp_append_byte rfl (.tmp 90) _ rfl (wo.heap.size + 1) A3 m3 c3 _ wr _ y rfl rfl hown3 rfl (by omega) hsl ?_; intro A5 c5 w5 hown5 hb5)
                    go_ret2
                    exact rdecPost_err (by rw [HT.out, decD_err HTK.out HNE.out]) (hB.trans (hb5.mono (by omega)))
                  · have HE4 : Hid (textD [] (l.drop (k + 1)) = textD (acc3 ++ [y]) (l.drop (q + 1))) := by rw [HE.out, if_neg (by rw [HM3.out]; exact h20)]; trivial
                    go_wp2_with (at_builtin; refine wp_append_byte rfl (.tmp 90) _ rfl (wo.heap.size + 1) A3 m3 c3 _ wr _ y rfl rfl hown3 rfl (by omega) hsl ?_; intro A5 c5 w5 hown5 hb5)
                    go_roundw
                    case rel => exact ⟨q + 1, m3 + 1, A5, c5, acc3 ++ [y], by omega, by omega, by omega, by go_num, rfl, hbl.trans hb5, Nat.le_trans hsl hb5.size, hown5, HE4.out⟩
                    case measure => simp [intOf]; omega
              · have hqn : ((q : Int) == (n : Int)) = true := by rw [beq_iff_eq]; omega
                have HTK : Hid (takeD (l.drop k) = .inr 8) := by
                  rw [HTD.out, HT3.out, List.drop_of_length_le (i := q) (by rw [HN.out]; omega), HZ.out]; trivial
                go_wp2
                go_ret2
                exact rdecPost_err (by rw [HT.out, decD_err HTK.out HNE.out]) hB
          · have HTK : Hid (takeD (l.drop k) = .inr 9) := by rw [HD.out, takeD, if_neg h1, if_neg h2, if_neg h3]; trivial
            have hx4 : (x.toNat : Int) - 1 < 0 ∨ 2 < (x.toNat : Int) - 1 := by
              have e1 : x.toNat ≠ 1 := fun h => h1 (UInt8.toNat_inj.1 h)
              have e2 : x.toNat ≠ 2 := fun h => h2 (UInt8.toNat_inj.1 h)
              have e3 : x.toNat ≠ 3 := fun h => h3 (UInt8.toNat_inj.1 h)
              omega
            clear h1 h2 h3
            subst hA
            have hx5 : 0 ≤ (x.toNat : Int) ∧ (x.toNat : Int) < 256 := ⟨by omega, by have := x.toNat_lt; omega⟩
            have hx6 := hx5.1
            have hx7 := hx5.2
            rcases hx4 with h4 | h4
            · go_wp2
              go_ret2
              exact rdecPost_err (by rw [HT.out, decD_err HTK.out HNE.out]) (hb.alloc hb.size _)
            · have h5 : ¬ (x.toNat : Int) - 1 < 0 := by omega
              go_wp2
              go_ret2
              exact rdecPost_err (by rw [HT.out, decD_err HTK.out HNE.out]) (hb.alloc hb.size _)
    · have HE : Hid (decB l = if 16 < acc.length then ([], 10) else (acc, 0)) := by
        have : l.drop k = [] := List.drop_of_length_le (by rw [HN.out]; omega)
        rw [HT.out, this]
        cases f <;> trivial
      by_cases h16 : 16 < m
      · have HE2 := Lib.hid (HE.out.trans (if_pos (by rw [HM.out]; exact h16)))
        go_wp2
        go_ret2
        exact rdecPost_err HE2.out hb
      · have HE2 := Lib.hid (HE.out.trans (if_neg (by rw [HM.out]; exact h16)))
        go_wp2
        go_ret2
        exact rdecPost_ok HE2.out HM.out hown hb
end Go.Proofs.Ytikkknaofiafhaa
