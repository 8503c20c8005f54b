/- wal.Open: the plain function.
wal.Open: the walk.
Contracts over log and disk together: ready, met, Sync, First, Cut.
A round of a range over a function, its regions walked by the plain words: laws that carry a plain walk of a region into a round's frame. No program in sight.
Contracts: slices.Grow of nil bytes, slices.Concat of two byte slices.
slices.Chunk and its iterator. -/
import Derived.Test.YtnlhjhpikjmoaaaGreatDoorW25
import Derived.Deep.DeepCutAuto
import Derived.Test.YtnlhjhpikjmoaaaGreatDoorSeqG
import Derived.Test.YtnlhjhpikjmoaaaGreatDoorDec
import Derived.RangeFuncNested
import Derived.RangeFuncBound
import Derived.RangeFuncCalls
import Derived.RangeFuncLeaves
import Derived.OrdersIn
import Derived.TacticsIn
import Derived.Test.YtnlhjhpikjmoaaaGreatDoorS0
import Derived.Lib.AppendZeros
import Derived.Shelf.Abstract
import Derived.Shelf.RegionOpen
import Derived.OwnWalkIn
import Derived.TacticsInMore
import Derived.LoopNIn
import Derived.LoopIn
namespace Go.Proofs.YtnlhjhpikjmoaaaGreatDoor
open Go.RowKit
def zeroH : HeadD := ⟨0, 0, 0, 0, 0⟩
def stepH (best : HeadD) (s : List UInt8) : HeadD := if rdN s 0 = rdN s 56 ∧ best.turn < (readH s).turn then readH s else best
def bestI (d : DskD) : Nat → HeadD
  | 0 => zeroH
  | i + 1 => stepH (bestI d i) (d.shown i)
def zeroL : LogD := ⟨false, 0, 0, [], [], 0, 0, false⟩
def openL (d : DskD) : LogD × DskD × Int :=
  if d.down = true then (zeroL, d, 3) else
  let q := findL zeroL d (bestI d (min 2 d.kept.length))
  if q.2 ≠ 0 then (q.1, d, q.2) else tellL q.1 d 0
theorem findF_inv (d : DskD) (h : HeadD) (hok : d.Ok) (hk : 3 ≤ d.kept.length) : ∀ (k : Nat) (l : LogD), l.used = secSum l.recs → l.used ≤ d.kept.length - 2 → (findF d h k l).1.used = secSum (findF d h k l).1.recs ∧ (findF d h k l).1.used ≤ d.kept.length - 2 ∧ (findF d h k l).1.turn = l.turn ∧ (findF d h k l).1.first = l.first ∧ (findF d h k l).1.dead = l.dead ∧ (findF d h k l).1.waits = l.waits
  | 0, l, h1, h2 => ⟨h1, h2, rfl, rfl, rfl, rfl⟩
  | k + 1, l, h1, h2 => by
    rw [findF]
    split
    · exact ⟨h1, h2, rfl, rfl, rfl, rfl⟩
    split
    · exact ⟨h1, h2, rfl, rfl, rfl, rfl⟩
    · rename_i hn
      obtain ⟨q, hq⟩ : ∃ q, q = nextL l d (findT h l) := ⟨_, rfl⟩
      rw [← hq] at hn ⊢
      obtain ⟨b, is, e⟩ := q
      simp only [not_or] at hn
      have his : is = true := by simpa using hn.2
      subst his
      have hf := nextL_fit hok hk h2 hq.symm
      exact findF_inv d h hok hk k _ (took_sum h1) (by show l.used + secN b.length ≤ _; exact hf.1)
theorem findL_inv (l : LogD) (d : DskD) (h : HeadD) (hok : d.Ok) (h1 : l.used = secSum l.recs) (h2 : d.kept.length < 3 ∨ l.used ≤ d.kept.length - 2) : (findL l d h).1.used = secSum (findL l d h).1.recs ∧ (findL l d h).1.turn = h.turn ∧ (findL l d h).1.dead = l.dead ∧ (findL l d h).1.waits = l.waits ∧ (d.kept.length < 3 ∨ (findL l d h).1.used ≤ d.kept.length - 2) := by
  unfold findL
  split
  · exact ⟨h1, rfl, rfl, rfl, h2⟩
  · rename_i hn
    have hk : 3 ≤ d.kept.length := by omega
    have := findF_inv d h hok hk (d.kept.length - 1) { l with turn := h.turn, first := h.first, end_ := h.start } h1 (h2.elim (fun e => by omega) id)
    exact ⟨this.1, this.2.2.1, this.2.2.2.2.1, this.2.2.2.2.2, .inr this.2.1⟩
theorem rdN_lt (b : List UInt8) (k : Nat) : rdN b k < 18446744073709551616 := beNat_sm8 _
theorem bestI_lt (d : DskD) : ∀ i, (bestI d i).turn < 18446744073709551616 ∧ (bestI d i).next < 18446744073709551616 ∧ (bestI d i).start < 18446744073709551616
  | 0 => ⟨by show 0 < _; decide, by show 0 < _; decide, by show 0 < _; decide⟩
  | i + 1 => by
    rw [bestI, stepH]
    split
    · exact ⟨rdN_lt _ _, rdN_lt _ _, rdN_lt _ _⟩
    · exact bestI_lt d i
end Go.Proofs.YtnlhjhpikjmoaaaGreatDoor
namespace Go.Proofs.YtnlhjhpikjmoaaaGreatDoor
open Go.RowKit
theorem Both.disk {f : Nat → Prop} {w : World} {gl gd : Nat} {l : LogD} {d : DskD} (h : Both f w gl gd l d) : DiskR f w gd d := by
  obtain ⟨fl, fd, h1, h2, h3, h4, h5⟩ := h
  exact h5.mono fun b hb _ => (h2 b hb).1
set_option maxRecDepth 100000 in
set_option maxHeartbeats 6400000 in
theorem open_any {fd : Nat → Prop} {gd : Nat} {d : DskD} {w : World} (hd : DiskR fd w gd d) (hdlt : ∀ x, fd x → x < w.heap.size) (hhf : (bestI d (min 2 d.kept.length)).first + 70000 < 18446744073709551616) (hht : (bestI d (min 2 d.kept.length)).turn + 1 < 18446744073709551616) (hwl : d.wait.length + 1 ≤ 1000000000) :
    Calls Tryz.prog 31 #[.pointer (some ⟨gd, 0, none⟩)] w fun e w' => (∃ p, e = .returned (.tuple #[.pointer p, .int .i64 (openL d).2.2]) ∧ (((openL d).2.2 ≠ 0 ∧ p = none ∧ DiskR (fun x => fd x ∨ w.heap.size ≤ x) w' gd (openL d).2.1) ∨ ((openL d).2.2 = 0 ∧ ∃ gl, p = some ⟨gl, 0, none⟩ ∧ Both (fun x => fd x ∨ w.heap.size ≤ x) w' gl gd (openL d).1 (openL d).2.1))) ∧ Kp (fun x => ¬ fd x) w w' := by
  obtain ⟨R, hR⟩ : ∃ R, R = openL d := ⟨_, rfl⟩
  rw [← hR]
  have HDN := Lib.hid (dDown_any hd)
  have HR := Lib.hid hR
  clear hR
  by_cases hdn : d.down = true
  · have hRR : R = (zeroL, d, 3) := by rw [HR.out, openL, if_pos hdn]
    have HRR := Lib.hid hRR
    rw [hdn] at HDN
    clear hRR hdn
    go_enter Tryz.func31, Tryz.ntmps31
    go_wp2_with fail
    refine HDN.out.mono ?_
    rintro e w1 ⟨rfl, rfl⟩
    go_wp2
    go_ret2
    rw [HRR.out]
    exact ⟨⟨_, rfl, .inl ⟨by show (3 : Int) ≠ 0; decide, rfl, hd.mono fun b hb _ => .inl hb⟩⟩, Kp.refl _ _⟩
  have hdnf : d.down = false := by simpa using hdn
  rw [hdnf] at HDN
  have HDF := Lib.hid hdnf
  obtain ⟨m, hm⟩ : ∃ m, m = min 2 d.kept.length := ⟨_, rfl⟩
  rw [← hm] at hhf hht
  have hR2 : R = let q := findL zeroL d (bestI d m); if q.2 ≠ 0 then (q.1, d, q.2) else tellL q.1 d 0 := by rw [HR.out, openL, if_neg hdn, hm]
  have HR2 := Lib.hid hR2
  have HHF := Lib.hid (And.intro hhf hht)
  have hok := hd.ok
  have HM := Lib.hid hm
  clear hR2 hdn hdnf hhf hht hm HR
  go_enter Tryz.func31, Tryz.ntmps31
  go_wp2_with fail
  refine HDN.out.mono ?_
  rintro e w1 ⟨rfl, rfl⟩
  go_upto_region 7 with fail
  refine name_world (fun w2 => Below w1.heap.size w1 w2 ∧ w1.heap.size + 2 ≤ w2.heap.size ∧ Blk w2 w1.heap.size 97 (lgCs gd zeroL (.slice none 0 0) (.slice none 0 0)) ∧ Blk w2 (w1.heap.size + 1) 99 (hdCs zeroH)) ⟨((Below.refl _ _).alloc (Nat.le_refl _) _).alloc (by simp) _, by simp, (Blk.new w1 _ _).alloc _, Blk.new_ (by simp)⟩ ?_
  rintro w2 ⟨hB2, hz2, kl2, kb2⟩
  obtain ⟨ga, hga⟩ : ∃ ga, ga = w1.heap.size := ⟨_, rfl⟩
  obtain ⟨gb, hgb⟩ : ∃ gb, gb = w1.heap.size + 1 := ⟨_, rfl⟩
  have hgab : ga ≠ gb := by omega
  have hga1 : w1.heap.size ≤ ga := by omega
  have hgb1 : w1.heap.size ≤ gb := by omega
  have hgb2 : gb < w2.heap.size := by omega
  have hga2 : ga < w2.heap.size := by omega
  rw [← hgb, ← hga]
  rw [← hga] at kl2
  rw [← hgb] at kb2
  have HGA := Lib.hid hga
  have HGB := Lib.hid hgb
  clear hga hgb hz2
  have hm2 : m ≤ 2 := by have := HM.out; omega
  have hmk : m ≤ d.kept.length := by have := HM.out; omega
  go_wp2
  go_loopw [6] (fun j wr => ∃ i : Nat, i ≤ m ∧ j = .int .i64 (i : Int) ∧ Below w1.heap.size w1 wr ∧ w2.heap.size ≤ wr.heap.size ∧ Blk wr ga 97 (lgCs gd zeroL (.slice none 0 0) (.slice none 0 0)) ∧ Blk wr gb 99 (hdCs (bestI d i))) (fun j _ => 2 - (intOf j).toNat)
  case atStart => exact ⟨0, Nat.zero_le _, rfl, hB2, Nat.le_refl _, kl2, kb2⟩
  clear kl2 kb2
  case round =>
    obtain ⟨i, hi, rfl, hbw, hzw, kl, kb⟩ := hrel
    obtain ⟨go, hgo⟩ : ∃ go : Bool, go = decide (i < m) := ⟨_, rfl⟩
    have HGO := Lib.hid hgo
    clear hgo
    have hdr := hd.below hbw
    go_upto_region 8 with fail
    go_cut [27] (fun v wx => v = .bool go ∧ wx = wr)
    case first =>
      by_cases h2 : i < 2
      · have z1 : decide ((i : Int) < 2) = true := decide_eq_true (by omega)
        have z2 : decide (i < 2) = true := decide_eq_true h2
        have hg : go = decide ((i : Int) < (d.kept.length : Int)) := by rw [HGO.out]; exact decide_eq_decide.2 (by have := HM.out; omega)
        clear h2
        go_wp2_with fail
        refine (dSize_any hdr).mono ?_
        rintro e w3 ⟨rfl, rfl⟩
        go_wp2
        go_meet
        exact ⟨by rw [hg]; first | rfl | (congr 1; exact decide_eq_decide.2 (by omega)), rfl⟩
      · have z1 : decide ((i : Int) < 2) = false := decide_eq_false (by omega)
        have z2 : decide (i < 2) = false := decide_eq_false h2
        have hg : go = false := by rw [HGO.out]; exact decide_eq_false (by omega)
        go_wp2
        go_meet
        exact ⟨by rw [hg], rfl⟩
    obtain ⟨rfl, hwx⟩ := hcut
    rw [hwx]
    clear hwx
    cases go
    case true =>
      have him : i < m := of_decide_eq_true HGO.out.symm
      have hik : i < d.kept.length := by omega
      obtain ⟨S, hS⟩ : ∃ S, S = d.shown i := ⟨_, rfl⟩
      have hread : d.read (i : Int) = (S, 0) := by unfold DskD.read; rw [if_neg (by rw [HDF.out]; decide), if_neg (by omega), hS]; rfl
      have hS64 : S.length = 64 := by rw [hS]; exact DskD.shown_64 hok.1 hik
      have hRd := dRead_any hdr (i : Int) (by constructor <;> omega)
      rw [hread] at hRd
      have HRd := Lib.hid hRd
      obtain ⟨b, hbe⟩ : ∃ b, b = bestI d i := ⟨_, rfl⟩
      rw [← hbe] at kb
      have hbs : bestI d (i + 1) = stepH b S := by rw [bestI, hbe, hS]
      have HBS := Lib.hid hbs
      have HS64 := Lib.hid hS64
      clear hread hRd hS hS64 hbs hbe hik
      go_wp2_with fail
      refine HRd.out.mono ?_
      rintro e w3 ⟨⟨v, rfl, hv⟩, hb3⟩
      have hz3 := hb3.size
      have hzz := hbw.size
      have kl3 := kl.below hb3 kl.lt
      have kb3 := kb.below hb3 kb.lt
      have hbw3 : Below w1.heap.size w1 w3 := hbw.trans (hb3.mono hzz)
      obtain ⟨A8, c8, rfl, hc8, _, hrd8, _⟩ := hv.open_
      rw [HS64.out] at hrd8 hc8 ⊢
      obtain ⟨b8, o8, rfl, hcell8⟩ := hrd8.2 (by omega)
      have hcl8 : ∀ j (h : j < S.length), w3.cell? ⟨b8, o8 + j, none⟩ = some (.int .u8 ((S[j]).toNat : Int)) := fun j h => hcell8 j _ (by unfold bs; rw [List.getElem?_map, List.getElem?_eq_getElem h]; rfl)
      have HRH := Lib.hid (readHead_any b8 o8 c8 S w3 HS64.out hc8 hcl8)
      obtain ⟨Hd, hHd⟩ : ∃ Hd, Hd = readH S := ⟨_, rfl⟩
      obtain ⟨is, his⟩ : ∃ is, is = (((rdN S 0 : Nat) : Int) == ((rdN S 56 : Nat) : Int)) := ⟨_, rfl⟩
      rw [← hHd, ← his] at HRH
      have hst : stepH b S = if is = true ∧ b.turn < Hd.turn then Hd else b := by
        rw [his, hHd]
        unfold stepH
        by_cases hq : rdN S 0 = rdN S 56
        · rw [hq]
          simp
        · have : ¬ (((rdN S 0 : Nat) : Int) == ((rdN S 56 : Nat) : Int)) = true := by simpa using (show ¬ ((rdN S 0 : Nat) : Int) = ((rdN S 56 : Nat) : Int) by omega)
          rw [if_neg (fun h => hq h.1), if_neg (fun h => this h.1)]
      have HST := Lib.hid hst
      clear hst his hHd hcl8 hcell8 hrd8 hv
      go_upto_region 13 with fail
      refine wp_region_split 6 ?_
      simp only [List.take_succ_cons, List.take_zero, List.drop_succ_cons, List.drop_zero]
      go_wp2_with fail
      refine HRH.out.mono ?_
      rintro e w4 ⟨rfl, hb4⟩
      go_wp2
      show wpList _ _ _ _ _ _
      refine wpList_st (C := hdCs zeroH) rfl rfl (hdCs Hd) rfl rfl (Blk.new_ rfl) rfl Tryz.infoHead (hd_all _) ?_ rfl
      intro k9
      have hB5 := below_setCells (B := w4.heap.size) (a := w4) (b := w4.heap.size) (Nat.le_refl _) (hdCs Hd).toList 0 ((Below.refl _ _).alloc (Nat.le_refl _) (.cells #[.int .u64 0, .int .u64 0, .int .u64 0, .int .u64 0, .int .u64 0] 99))
      generalize hw5 : World.setCells (w4.alloc (.cells #[.int .u64 0, .int .u64 0, .int .u64 0, .int .u64 0, .int .u64 0] 99)) w4.heap.size 0 (hdCs Hd).toList = w5 at k9 hB5 ⊢
      obtain ⟨gh, hgh⟩ : ∃ gh, gh = w4.heap.size := ⟨_, rfl⟩
      have hz4 := hb4.size
      have hlb := kb3.lt
      have hghb : gh ≠ gb := by omega
      rw [← hgh] at k9 ⊢
      have HGH := Lib.hid hgh
      have kb5 := (kb3.below hb4 hlb).below hB5 (by omega)
      have kl5 := (kl3.below hb4 kl3.lt).below hB5 (by have := kl3.lt; omega)
      have hz13 : w1.heap.size ≤ w3.heap.size := by omega
      have hz14 : w1.heap.size ≤ w4.heap.size := by omega
      have hbw5 : Below w1.heap.size w1 w5 := (hbw3.trans (hb4.mono hz13)).trans (hB5.mono hz14)
      have hz5 := hB5.size
      clear hgh hw5 hB5
      have y1 : w5.cell? ⟨gh, 0, none⟩ = some (.int .u64 (Hd.turn : Int)) := k9.cell 0
      have y2 : w5.cell? ⟨gb, 0, none⟩ = some (.int .u64 (b.turn : Int)) := kb5.cell 0
      go_upto_region 14 with fail
      obtain ⟨tk, htk⟩ : ∃ tk : Bool, tk = decide (is = true ∧ b.turn < Hd.turn) := ⟨_, rfl⟩
      have HTK := Lib.hid htk
      clear htk
      go_cut [51] (fun v wx => v = .bool tk ∧ wx = w5)
      case first =>
        cases is
        · have hg : tk = false := by rw [HTK.out]; simp
          go_wp2
          go_meet
          exact ⟨by rw [hg], rfl⟩
        · have hg : tk = decide ((b.turn : Int) < (Hd.turn : Int)) := by rw [HTK.out]; exact decide_eq_decide.2 ⟨fun h => by have := h.2; omega, fun h => ⟨rfl, by omega⟩⟩
          go_wp2
          go_meet
          exact ⟨by rw [hg]; first | rfl | (congr 1; exact decide_eq_decide.2 (by omega)), rfl⟩
      obtain ⟨rfl, hwx⟩ := hcut
      rw [hwx]
      clear hwx y1 y2
      cases tk
      case false =>
        have hbn : bestI d (i + 1) = b := by rw [HBS.out, HST.out, if_neg (of_decide_eq_false HTK.out.symm)]
        have hkb5 : Blk w5 gb 99 (hdCs (bestI d (i + 1))) := by rw [hbn]; exact kb5
        have hwz : w2.heap.size ≤ w5.heap.size := by omega
        clear hbn kb5
        go_wp2
        go_roundw
        case rel => exact ⟨i + 1, by omega, by go_num, hbw5, hwz, kl5, hkb5⟩
        case measure => simp [intOf]; omega
      have hbn : bestI d (i + 1) = Hd := by rw [HBS.out, HST.out, if_pos (of_decide_eq_true HTK.out.symm)]
      have HBN := Lib.hid hbn
      clear hbn
      go_upto_region 15 with fail
      refine wp_region_split 0 ?_
      simp only [List.take_succ_cons, List.take_zero, List.drop_succ_cons, List.drop_zero]
      go_wp2
      show wpList _ _ _ _ _ _
      refine wpList_ld (g := gh) (k := 0) (cs := hdCs Hd) rfl rfl rfl k9.range Tryz.underlying99 rfl Tryz.infoHead ?_
      simp only [Act.put, List.setIfInBounds_toArray, List.set_cons_succ, List.set_cons_zero]
      refine wpList_st (C := hdCs b) rfl rfl (hdCs Hd) rfl rfl kb5 rfl Tryz.infoHead (hd_all _) ?_ rfl
      intro k10
      have hst10 := below_setCells (B := w1.heap.size) (b := gb) hgb1 (hdCs Hd).toList 0 hbw5
      have hk10 := Kp.setCells (ok := fun b => b ≠ gb) (a := w5) (b := gb) (fun _ hh => hh rfl) (hdCs Hd).toList 0 (Kp.refl _ _)
      generalize hw6 : World.setCells w5 gb 0 (hdCs Hd).toList = w6 at k10 hst10 hk10 ⊢
      have kl6 := kl5.kp hk10 hgab
      have hz6 := hk10.size
      have hkb6 : Blk w6 gb 99 (hdCs (bestI d (i + 1))) := by rw [HBN.out]; exact k10
      have hwz : w2.heap.size ≤ w6.heap.size := by omega
      clear hw6 k10 hk10
      go_wp2
      go_roundw
      case rel => exact ⟨i + 1, by omega, by go_num, hst10, hwz, kl6, hkb6⟩
      case measure => simp [intOf]; omega
    have him : i = m := by have := of_decide_eq_false HGO.out.symm; omega
    subst him
    have hlt := bestI_lt d i
    have hhf := HHF.out
    have hL0 : LogR (fun b => b = ga) wr ga gd zeroL := ⟨_, _, kl, OwnL.nil_ _ _ _ _ _, OwnL.nil_ _ _ _ _ _, by simp [Value.ownBlock], by simp [Value.ownBlock], (fun b hb => by cases hb), rfl, (fun b hb => by cases hb), (fun b hb => by cases hb), ⟨by decide, by decide, (fun r hr => by cases hr), rfl, (fun r hr => by cases hr), by decide, by decide⟩⟩
    have hBo : Both (fun x => x = ga ∨ fd x) wr ga gd zeroL d := Both.mk_ hL0 hdr fun x hx _ e => by have := hdlt x hx; omega
    have hfd := find_any (bestI d i) hBo hlt.1 hlt.2.1 hlt.2.2 hhf.1 rfl (.inr (Nat.zero_le _))
    have hinv := findL_inv zeroL d (bestI d i) hok.1 rfl (.inr (Nat.zero_le _))
    obtain ⟨q, hq⟩ : ∃ q, q = findL zeroL d (bestI d i) := ⟨_, rfl⟩
    have hR2 := HR2.out
    rw [← hq] at hfd hinv hR2
    have hqt : q.1.turn + 1 < 18446744073709551616 := by rw [hinv.2.1]; exact hhf.2
    have HFD := Lib.hid hfd
    have HRQ := Lib.hid hR2
    have HINV := Lib.hid hinv
    have HQT := Lib.hid hqt
    obtain ⟨H, hH⟩ : ∃ H, H = bestI d i := ⟨_, rfl⟩
    rw [← hH] at HFD kb
    clear hlt hhf hL0 hBo hfd hinv hq hR2 hqt hH HR2 HHF hdr
    obtain ⟨l1, E1⟩ := q
    go_upto_region 16 with fail
    refine wp_region_split 1 ?_
    simp only [List.take_succ_cons, List.take_zero, List.drop_succ_cons, List.drop_zero]
    go_wp2
    show wpList _ _ _ _ _ _
    refine wpList_ld (g := gb) (k := 0) (cs := hdCs H) rfl rfl rfl kb.range Tryz.underlying99 rfl Tryz.infoHead ?_
    simp only [Act.put, List.setIfInBounds_toArray, List.set_cons_succ, List.set_cons_zero]
    go_wp2_with fail
    refine HFD.out.mono ?_
    rintro e w5 ⟨rfl, hBo5, hK5⟩
    have hzw := hbw.size
    have hKd5 : Kp (fun x => ¬ fd x) w1 w5 := (Kp.of_below hbw).thenW hK5 fun b hb hn e => e.elim (fun e => by omega) hn
    have hf5 : ∀ b, ((b = ga ∨ fd b) ∨ wr.heap.size ≤ b) → fd b ∨ w1.heap.size ≤ b := fun b hb => hb.elim (fun h => h.elim (fun h => .inr (by omega)) .inl) fun h => .inr (by omega)
    have HK5 := Lib.hid hKd5
    have hz5 := hK5.size
    clear hKd5 hK5 HFD kl kb
    try simp only at *
    by_cases hE1 : E1 = 0
    case neg =>
      have hRR : R = (l1, d, E1) := by rw [HRQ.out, if_pos hE1]
      have HRR := Lib.hid hRR
      have t3 : (E1 == 0) = false := by simpa using hE1
      have t4 : decide (E1 = 0) = false := decide_eq_false hE1
      have HBo := Lib.hid hBo5
      have HE1 := Lib.hid hE1
      clear hRR hBo5 hE1
      go_wp2
      go_ret2
      rw [HRR.out]
      exact ⟨⟨_, rfl, .inl ⟨HE1.out, rfl, (HBo.out.mono fun b hb _ => hf5 b hb).disk⟩⟩, HK5.out⟩
    subst hE1
    have hRR : R = tellL l1 d 0 := by rw [HRQ.out, if_neg (by decide)]
    have hTL := tell_any 0 (hBo5.mono fun b hb _ => hf5 b hb) (Nat.zero_le _) HINV.out.1 HQT.out hwl
    rw [← hRR] at hTL
    obtain ⟨l2, d2, E2⟩ := R
    have HTL := Lib.hid hTL
    clear hRR hTL hBo5 HRQ HINV HQT
    try simp only at *
    go_wp2_with fail
    refine HTL.out.mono ?_
    rintro e w6 ⟨rfl, hBo6, hK6⟩
    have hK16 : Kp (fun x => ¬ fd x) w1 w6 := HK5.out.thenW hK6 fun b hb hn e => e.elim hn fun e => by omega
    have HK16 := Lib.hid hK16
    have HBo6 := Lib.hid (hBo6.mono (f' := fun x => fd x ∨ w1.heap.size ≤ x) fun b hb _ => hb.elim id fun h => .inr (by omega))
    clear hK16 hBo6 hK6
    by_cases hE2 : E2 = 0
    case neg =>
      have t3 : (E2 == 0) = false := by simpa using hE2
      have t4 : decide (E2 = 0) = false := decide_eq_false hE2
      have HE2 := Lib.hid hE2
      clear hE2
      go_wp2
      go_ret2
      exact ⟨⟨_, rfl, .inl ⟨HE2.out, rfl, HBo6.out.disk⟩⟩, HK16.out⟩
    subst hE2
    go_wp2
    go_ret2
    first | exact ⟨⟨_, rfl, .inr ⟨rfl, ga, rfl, HBo6.out⟩⟩, HK16.out⟩ | exact ⟨⟨_, rfl, ga, rfl, HBo6.out⟩, HK16.out⟩
end Go.Proofs.YtnlhjhpikjmoaaaGreatDoor
namespace Go.Proofs.YtnlhjhpikjmoaaaGreatDoor
open Go.RowKit
section
variable {f : Nat → Prop} {gl gd : Nat} {l : LogD} {d : DskD} {w : World}
theorem Both.glf (h : Both f w gl gd l d) : f gl := by
  obtain ⟨fl, fd, h1, h2, h3, h4, h5⟩ := h
  exact (h1 _ h4.ftl).1
theorem ready_b (h : Both f w gl gd l d) : Calls Tryz.prog 57 #[.pointer (some ⟨gl, 0, none⟩)] w fun e w' => e = .returned (.int .i64 (rdyE l d)) ∧ Both f w' gl gd (rdy l d) d ∧ Kp (fun b => b ≠ gl) w w' := by
  obtain ⟨fl, fd, h1, h2, h3, h4, h5⟩ := h
  refine (ready_any h4 h5).mono ?_
  rintro e w' ⟨he, hl, hk⟩
  have hz := hk.size
  exact ⟨he, ⟨fl, fd, fun x hx => ⟨(h1 x hx).1, Nat.lt_of_lt_of_le (h1 x hx).2 hz⟩, fun x hx => ⟨(h2 x hx).1, Nat.lt_of_lt_of_le (h2 x hx).2 hz⟩, h3, hl, h5.kp hk fun b hb e => h3 b hb (e ▸ h4.ftl)⟩, hk⟩
theorem met_b (h : Both f w gl gd l d) (k : Int) : Calls Tryz.prog 61 #[.pointer (some ⟨gl, 0, none⟩), .int .i64 k] w fun e w' => e = .returned (.int .i64 k) ∧ Both f w' gl gd { l with dead := l.dead || k == 3 } d ∧ Kp (fun b => b ≠ gl) w w' := by
  obtain ⟨fl, fd, h1, h2, h3, h4, h5⟩ := h
  refine (met_any h4 k).mono ?_
  rintro e w' ⟨he, hl, hk⟩
  have hz := hk.size
  exact ⟨he, ⟨fl, fd, fun x hx => ⟨(h1 x hx).1, Nat.lt_of_lt_of_le (h1 x hx).2 hz⟩, fun x hx => ⟨(h2 x hx).1, Nat.lt_of_lt_of_le (h2 x hx).2 hz⟩, h3, hl, h5.kp hk fun b hb e => h3 b hb (e ▸ h4.ftl)⟩, hk⟩
theorem first_b (h : Both f w gl gd l d) : Calls Tryz.prog 52 #[.pointer (some ⟨gl, 0, none⟩)] w fun e w' => e = .returned (.int .u64 (l.first : Int)) ∧ w' = w := by
  obtain ⟨fl, fd, h1, h2, h3, h4, h5⟩ := h
  exact first_any h4
theorem sync_b (h : Both f w gl gd l d) : Calls Tryz.prog 62 #[.pointer (some ⟨gl, 0, none⟩)] w fun e w' => e = .returned (.int .i64 (syncL l d).2.2) ∧ Both f w' gl gd (syncL l d).1 (syncL l d).2.1 ∧ Kp (fun x => ¬ f x) w w' := by
  obtain ⟨fl, fd, h1, h2, h3, h4, h5⟩ := h
  refine (sync_any h4 h5 h3).mono ?_
  rintro e w' ⟨he, hl, hd, hk⟩
  have hz := hk.size
  exact ⟨he, ⟨fl, fd, fun x hx => ⟨(h1 x hx).1, Nat.lt_of_lt_of_le (h1 x hx).2 hz⟩, fun x hx => ⟨(h2 x hx).1, Nat.lt_of_lt_of_le (h2 x hx).2 hz⟩, h3, hl, hd⟩, hk.mono fun b hb => ⟨fun h => hb (h1 b h).1, fun h => hb (h2 b h).1⟩⟩
theorem records_b (h : Both f w gl gd l d) (hn : l.recs.length ≤ 1000000) : Calls Tryz.prog 53 #[.pointer (some ⟨gl, 0, none⟩)] w fun e w' => (∃ v, e = .returned v ∧ RSl rBs (fun b => w.heap.size ≤ b) w' v l.recs) ∧ Below w.heap.size w w' := by
  obtain ⟨fl, fd, h1, h2, h3, h4, h5⟩ := h
  exact records_any h4 hn
theorem Both.setWaits (h : Both f w gl gd l d) (x : Bool) : Both f (w.setCell ⟨gl, 8, none⟩ (.bool x)) gl gd { l with waits := x } d ∧ Kp (fun b => b ≠ gl) w (w.setCell ⟨gl, 8, none⟩ (.bool x)) := by
  have hk : Kp (fun b => b ≠ gl) w (w.setCell ⟨gl, 8, none⟩ (.bool x)) := (Kp.refl _ _).setCell (fun _ h => h rfl) _
  have hok := h.ok.1
  exact ⟨h.put hk _ rfl rfl ⟨hok.turn, hok.first, hok.recs, hok.places, hok.placed, hok.end_, hok.used⟩ fun vr vp hb => hb.set_ 8 _, hk⟩
end
def cutL (l : LogD) (d : DskD) (n : Nat) : LogD × DskD × Int :=
  if n < l.first ∨ l.first + l.recs.length < n then (l, d, 1) else
  if n = l.first then syncL l d else
  if rdyE l d ≠ 0 then (rdy l d, d, 3) else
  let t := tellL l d (n - l.first)
  if t.2.2 ≠ 0 then ({ t.1 with dead := t.1.dead || t.2.2 == 3 }, t.2.1, t.2.2) else ({ t.1 with dead := t.1.dead || t.2.2 == 3, waits := false }, t.2.1, 0)
set_option maxRecDepth 100000 in
set_option maxHeartbeats 6400000 in
theorem cut_any {f : Nat → Prop} {gl gd : Nat} {l : LogD} {d : DskD} {w : World} (n : Nat) (h : Both f w gl gd l d) (hn : n < 18446744073709551616) (hus : l.used = secSum l.recs) (ht : l.turn + 1 < 18446744073709551616) (hwl : d.wait.length + 1 ≤ 1000000000) :
    Calls Tryz.prog 36 #[.pointer (some ⟨gl, 0, none⟩), .int .u64 (n : Int)] w fun e w' => e = .returned (.int .i64 (cutL l d n).2.2) ∧ Both (fun x => f x ∨ w.heap.size ≤ x) w' gl gd (cutL l d n).1 (cutL l d n).2.1 ∧ Kp (fun x => ¬ f x) w w' := by
  obtain ⟨R, hR⟩ : ∃ R, R = cutL l d n := ⟨_, rfl⟩
  rw [← hR]
  have HR := Lib.hid hR
  have hok := h.ok
  have hfg := h.glf
  have HLN := Lib.hid hn
  have HLT := Lib.hid ht
  have HFI := Lib.hid hok.1.first
  have hrl : l.recs.length ≤ 65536 := by have := hok.1.used; have := secSum_ge l.recs; omega
  obtain ⟨Nx, hNx⟩ : ∃ Nx, Nx = l.first + l.recs.length := ⟨_, rfl⟩
  have hnext := fun {w : World} (h : Both f w gl gd l d) => next_b h
  rw [← hNx] at hnext
  have HNX := Lib.hid hNx
  have HB := Lib.hid h
  obtain ⟨bad, hbad⟩ : ∃ bad : Bool, bad = decide (n < l.first ∨ Nx < n) := ⟨_, rfl⟩
  have HBAD := Lib.hid hbad
  clear hbad hNx hn ht hR hok
  go_enter Tryz.func36, Tryz.ntmps36
  go_upto_region 3 with fail
  go_cut [18] (fun v wx => v = .bool bad ∧ Below w.heap.size w wx)
  case first =>
    by_cases h1 : n < l.first
    · have hm : bad = true := by rw [HBAD.out]; exact decide_eq_true (.inl h1)
      have z3 : decide ((n : Int) < (l.first : Int)) = true := decide_eq_true (by omega)
      have z4 : decide (n < l.first) = true := decide_eq_true h1
      clear h1
      go_wp2_with fail
      refine (first_b HB.out).mono ?_
      rintro e w2 ⟨rfl, rfl⟩
      go_wp2
      go_meet
      exact ⟨by rw [hm], Below.refl _ _⟩
    · have z3 : decide ((n : Int) < (l.first : Int)) = false := decide_eq_false (by omega)
      have z4 : decide (n < l.first) = false := decide_eq_false h1
      have hm : bad = decide ((Nx : Int) < (n : Int)) := by rw [HBAD.out]; exact decide_eq_decide.2 (by omega)
      clear h1
      go_wp2_with fail
      refine (first_b HB.out).mono ?_
      rintro e w2 ⟨rfl, rfl⟩
      go_wp2_with fail
      refine (hnext HB.out).mono ?_
      rintro e w3 ⟨rfl, hb3⟩
      go_wp2
      go_meet
      exact ⟨by rw [hm]; first | rfl | (congr 1; exact decide_eq_decide.2 (by omega)), hb3⟩
  obtain ⟨rfl, hbc⟩ := hcut
  have hBc := HB.out.below hbc
  cases bad
  case true =>
    have hRR : R = (l, d, 1) := by rw [HR.out, cutL, if_pos (by rw [← HNX.out]; exact of_decide_eq_true HBAD.out.symm)]
    have HRR := Lib.hid hRR
    clear hRR
    have HBC := Lib.hid hBc
    clear hBc
    go_wp2
    go_ret
    rw [HRR.out]
    exact ⟨rfl, HBC.out.mono fun b hb _ => .inl hb, .of_below hbc⟩
  have hnb := of_decide_eq_false HBAD.out.symm
  have hR2 := HR.out
  rw [cutL, if_neg (by rw [← HNX.out]; exact hnb)] at hR2
  obtain ⟨vr, vp, hbk, _, hgl⟩ := hBc.cells
  have c3 : wc.cell? ⟨gl, 3, none⟩ = some (.int .u64 (l.first : Int)) := hbk.cell 3
  have hzc := hbc.size
  clear hbk HBAD
  by_cases hnf : n = l.first
  · rw [if_pos hnf] at hR2
    have HRR := Lib.hid hR2
    have z3 : ((n : Int) == (l.first : Int)) = true := by simpa using (show (n : Int) = (l.first : Int) by omega)
    have z4 : decide ((n : Int) = (l.first : Int)) = true := decide_eq_true (by omega)
    have z5 : (n == l.first) = true := by simpa using hnf
    have z6 : decide (n = l.first) = true := decide_eq_true hnf
    have hsy := sync_b hBc
    rw [← HRR.out] at hsy
    have HSY := Lib.hid hsy
    clear hR2 hsy hnf hnb hBc
    go_wp2_with fail
    refine HSY.out.mono ?_
    rintro e w4 ⟨rfl, hB4, hK4⟩
    have HB4 := Lib.hid hB4
    have HK4 := Lib.hid ((Kp.of_below (ok := fun x => ¬ f x) hbc).trans hK4)
    clear hB4 hK4 c3
    go_wp2
    go_ret
    exact ⟨rfl, HB4.out.mono fun b hb _ => .inl hb, HK4.out⟩
  rw [if_neg hnf] at hR2
  have z3 : ((n : Int) == (l.first : Int)) = false := by simpa using (show ¬ (n : Int) = (l.first : Int) by omega)
  have z4 : decide ((n : Int) = (l.first : Int)) = false := decide_eq_false (by omega)
  have z5 : (n == l.first) = false := by simpa using hnf
  have z6 : decide (n = l.first) = false := decide_eq_false hnf
  have hrd := ready_b hBc
  rcases rdyE_or l d with he | ⟨he, hrde⟩
  · rw [if_pos (by rw [he]; decide)] at hR2
    rw [he] at hrd
    have HRR := Lib.hid hR2
    have HRD := Lib.hid hrd
    clear hR2 hrd he hnf hnb
    go_wp2_with fail
    refine HRD.out.mono ?_
    rintro e w4 ⟨rfl, hB4, hK4⟩
    have HB4 := Lib.hid hB4
    have HK4 := Lib.hid ((Kp.of_below (ok := fun x => ¬ f x) hbc).thenW hK4 fun b _ hb e => hb (e ▸ hfg))
    clear hB4 hK4 c3 hBc
    go_wp2
    go_ret
    rw [HRR.out]
    exact ⟨rfl, HB4.out.mono fun b hb _ => .inl hb, HK4.out⟩
  rw [if_neg (by rw [he]; decide)] at hR2
  rw [he, hrde] at hrd
  have HRD := Lib.hid hrd
  obtain ⟨t, htd⟩ : ∃ t, t = tellL l d (n - l.first) := ⟨_, rfl⟩
  rw [← htd] at hR2
  simp only at hR2
  have HRR := Lib.hid hR2
  have HTD := Lib.hid htd
  have hnr : n - l.first ≤ l.recs.length := by have := HNX.out; omega
  have hnx : ((n - l.first : Nat) : Int) = (n : Int) - (l.first : Int) := by omega
  obtain ⟨k, hk⟩ : ∃ k, k = n - l.first := ⟨_, rfl⟩
  rw [← hk] at hnr hnx
  have HK := Lib.hid hk
  have HNK := Lib.hid hnx
  clear htd hR2 hrd he hrde hnf hnb hk hnx
  go_wp2_with fail
  refine HRD.out.mono ?_
  rintro e w4 ⟨rfl, hB4, hK4⟩
  obtain ⟨vr4, vp4, hbk4, _⟩ := hB4.cells
  have c34 : w4.cell? ⟨gl, 3, none⟩ = some (.int .u64 (l.first : Int)) := hbk4.cell 3
  clear c3 hbk4
  have y1 : (0 : Int) ≤ (n : Int) - (l.first : Int) := by have := HNK.out; omega
  have y2 : (n : Int) - (l.first : Int) ≤ 65536 := by have := HNK.out; omega
  have hTL := tell_any k hB4 hnr hus HLT.out hwl
  rw [HNK.out] at hTL
  have hTL2 := hTL
  rw [HK.out, ← HTD.out] at hTL2
  obtain ⟨l2, d2, E2⟩ := t
  simp only at hTL2
  have HTL := Lib.hid hTL2
  have HK4 := Lib.hid ((Kp.of_below (ok := fun x => ¬ f x) hbc).thenW hK4 fun b _ hb e => hb (e ▸ hfg))
  have hz4 := hK4.size
  clear hTL hTL2 hK4 hB4 hBc HTD
  go_wp2_with fail
  refine HTL.out.mono ?_
  rintro e w5 ⟨rfl, hB5, hK5⟩
  clear c34
  have hMT := met_b hB5 E2
  have HMT := Lib.hid hMT
  have HK5 := Lib.hid (HK4.out.trans hK5)
  have hz5 := hK5.size
  clear hMT hB5 hK5 HTL HK4
  go_wp2_with fail
  refine HMT.out.mono ?_
  rintro e w6 ⟨rfl, hB6, hK6⟩
  have hmn : ∀ b, (f b ∨ w4.heap.size ≤ b) → f b ∨ w.heap.size ≤ b := fun b hb => hb.elim .inl fun h => .inr (by omega)
  have HK6 := Lib.hid (HK5.out.thenW hK6 fun b _ hb e => hb (e ▸ hfg))
  clear hK6 HK5 HMT
  by_cases hE : E2 = 0
  case neg =>
    have hRR := HRR.out
    rw [if_pos hE] at hRR
    have HR3 := Lib.hid hRR
    have HB6 := Lib.hid hB6
    have z7 : (E2 == 0) = false := by simpa using hE
    have z8 : decide (E2 = 0) = false := decide_eq_false hE
    clear hRR hE hB6
    go_wp2
    go_ret
    rw [HR3.out]
    exact ⟨rfl, HB6.out.mono fun b hb _ => hmn b hb, HK6.out⟩
  subst hE
  have hRR := HRR.out
  rw [if_neg (by simp)] at hRR
  have HR3 := Lib.hid hRR
  have hsw := hB6.setWaits false
  obtain ⟨vr6, vp6, hbk6, _⟩ := hB6.cells
  have fg := fun i => hbk6.frozen i
  have c8 : w6.cell? ⟨gl, 8, none⟩ = some (.bool l2.waits) := hbk6.cell 8
  have HS := Lib.hid hsw
  clear hRR hsw hB6 hbk6
  go_wp2
  go_ret
  rw [HR3.out]
  exact ⟨rfl, HS.out.1.mono fun b hb _ => hmn b hb, HK6.out.thenW HS.out.2 fun b _ hb e => hb (e ▸ hfg)⟩
end Go.Proofs.YtnlhjhpikjmoaaaGreatDoor
namespace Go.Proofs.YtnlhjhpikjmoaaaGreatDoor
open Go.RowKit
open Region
section
variable {P : Program} {ops : Array Oper} {Q : Exit → Act → World → Prop} {l0 n : Nat}
def noDefer (o : Oper) : Bool := match o.op with | .defer _ => false | _ => true
abbrev rnd (l0 : Nat) : Fence := Fence.wide.inRound l0
theorem rowsIn_of {row : String} {args : Array Value} {w : World} {R : Value → World → Prop} (h : Rows P row args w R) : RowsIn (rnd l0) n P row args w R :=
  fun c cs _ => let ⟨v, w', r, s⟩ := h c cs; ⟨v, w', r, stepsIn_wide.2 s⟩
theorem uponIn_of {o : Oper} {a : Act} {K : Act → World → Prop} {r : Result Next} (h : o.upon P a K Q r) : o.uponIn (rnd l0) n P a K Q r := by
  cases r with
  | ok x w' =>
    cases x
    case value v => exact h
    case skip => exact h
    case defer d => exact h
    case enter f args => exact ⟨fun hh => absurd hh (by simp [Fence.wide]), CallsIn.inRound l0 (callsIn_wide.2 h)⟩
    case row row args => exact ⟨fun hh => absurd hh (by simp [Fence.wide]), rowsIn_of h⟩
    all_goals exact h.elim
  | halt x w' => cases x <;> first | exact h | exact h.elim
theorem opIn_of {o : Oper} {a : Act} {w : World} {K : Act → World → Prop} (hd : noDefer o = true) (h : o.wp P a w K Q) : o.wpIn (rnd l0) n P a w K Q := by
  have hnd : ∀ c, o.op ≠ .defer c := fun c e => by unfold noDefer at hd; rw [e] at hd; cases hd
  refine ⟨fun _ _ => trivial, ?_⟩
  show o.uponIn (rnd l0) n P a K Q ((Oper.semAt (some l0) a.eval o).run P w)
  rw [Oper.semAt_some l0 _ _ hnd]
  exact uponIn_of h
theorem wpOpIn_of {i : Nat} {a : Act} {w : World} {K : Act → World → Prop} (hd : ops.all noDefer = true) (hno : ¬ LetsOut Q) (h : wpOp P ops Q i K a w) : wpOpIn (rnd l0) n P ops Q i K a w := by
  unfold wpOp at h
  unfold wpOpIn
  cases ho : ops[i]? with
  | none => simp only [ho] at h ⊢; exact h
  | some o =>
    simp only [ho] at h ⊢
    have hod : noDefer o = true := by
      rw [Array.all_eq_true_iff_forall_mem] at hd
      exact hd o (Array.mem_of_getElem? ho)
    split
    · rename_i hw
      rw [if_pos hw] at h
      exact opIn_of hod (h.resolve_right fun h => hno h.2)
    · rename_i hw
      rw [if_neg hw] at h
      exact ⟨fun _ _ => trivial, h⟩
theorem wpAnyIn_of (hd : ops.all noDefer = true) (hno : ¬ LetsOut Q) (md : Region.Mode) : ∀ (fuel : Nat) (listed : Array Bool) (a : Act) (w : World), wpAny P md ops Q fuel listed a w → wpAnyIn (rnd l0) n P md ops Q fuel listed a w
  | 0, _, _, _, h => h
  | fuel + 1, listed, a, w, h => ⟨h.1, fun i hi => wpOpIn_mono (fun a w h => wpAnyIn_of hd hno md fuel _ a w h) (wpOpIn_of hd hno (h.2 i hi))⟩
theorem wpListIn_of (hno : ¬ LetsOut Q) : ∀ (l : List Oper) (a : Act) (w : World), l.all noDefer = true → wpList P ops Q l a w → wpListIn (rnd l0) n P ops Q l a w
  | [], _, _, _, h => h
  | o :: l, a, w, hd, h => by
    rw [List.all_cons, Bool.and_eq_true] at hd
    unfold wpList at h
    unfold wpListIn
    split
    · rename_i hw
      rw [if_pos hw] at h
      exact Oper.wpIn_mono (fun a w h => wpListIn_of hno l a w hd.2 h) (opIn_of hd.1 (h.resolve_right fun h => hno h.2))
    · rename_i hw
      rw [if_neg hw] at h
      exact ⟨fun _ _ => trivial, wpListIn_of hno l _ w hd.2 h⟩
theorem inR_seq {id : Nat} {l : List Oper} {rest : Code} {a : Act} {w : World} (hd : l.all noDefer = true) (hno : ¬ LetsOut Q)
    (h : ∀ K : Act → World → Prop, (∀ a w, rest.wpIn (rnd l0) n P Q a w → K a w) → wpList P l.toArray (Exit.then K Q) l a w) : ((Code.region id l.toArray false).seq rest).wpIn (rnd l0) n P Q a w :=
  wpIn_seq_k fun K hK => wpIn_region_lit (wpListIn_of (Q := Exit.then K Q) (fun ⟨a, w, h⟩ => hno ⟨a, w, h⟩) l a w hd (h K hK))
end
section
variable {P : Program}
theorem seq_core {Q : Exit → Act → World → Prop} {a : Act} {w : World} {l : List Oper} (C0 C1 : World → Prop) (f : Nat) (wild : List Nat) (hB : seqB l.toArray f wild = true) (h01 : ∀ w, C0 w → C1 w) (hc : C0 w.drew)
    (h : wpSeq P l.toArray C0 C1 f wild (fun a' w' => Q .normal a' w') 0 l a w.drew) : wpAny P .any l.toArray Q l.toArray.size (Array.replicate l.toArray.size false) a { w with drawn := w.drawn + 1 } := by
  simp only [seqB, Bool.and_eq_true, List.all_eq_true, decide_eq_true_eq, Bool.or_eq_true, beq_iff_eq] at hB
  obtain ⟨hB1, hB2, hB3, hB4⟩ := hB
  have hm := many_ok hB1
  have hch := chain_all (l := wild) hB2
  have hfr : ∀ n, fr l.toArray a ((Array.replicate l.toArray.size false).getD · false) (fun _ => undef) n = a := by
    intro n
    induction n with
    | zero => rfl
    | succ n ih => unfold fr; rw [ih, getD_replicate_false, if_neg (by simp)]
  obtain ⟨s, e2, r1, r2, r3, r4, r5, r6⟩ := seq_roll (a0 := a) (L := fun _ => false) (e := fun _ => undef) l 0 (fun _ => undef) w.drew (by simp) (Nat.zero_le _) (fun i hi => absurd hi (by omega)) (fun i _ _ h => by cases h) h
  have hfw : f ∈ wild ∨ f = l.toArray.size := by
    rcases hB3 with h | h
    · exact .inl (by simpa using h)
    · exact .inr h
  have hno : ∀ {p : Prop} (i : Nat), (Array.replicate l.toArray.size false).getD i false = true → p := fun i h => by rw [getD_replicate_false] at h; cases h
  have := seq_any (a0 := a) (Q' := Q) (C0 := C0) (C1 := C1) (Q := fun a' w' => Q .normal a' w') hm hch hB4 hfw h01 (fun _ _ h => h) l.length (Array.replicate l.toArray.size false) w.drew (fun _ => undef)
    ⟨by simp, fun j oj _ hl => hno j hl, fun t h1 h2 => (by omega)⟩ (by
      have : (fun i => !(Array.replicate l.toArray.size false).getD i false) = fun _ => true := funext fun i => by rw [getD_replicate_false]; rfl
      rw [this]; simp)
    ⟨s, e2, r2, fun h => ⟨r3 h, getD_replicate_false _ _⟩, fun k hk h => absurd hk (r5 k (Nat.zero_le _) h).1, r6, fun i hi h => hno i h, fun i hi _ => (r5 i (Nat.zero_le _) hi).2.1, fun i _ _ h => hno i h, fun _ => hc, h01 _ hc⟩
  rw [hfr] at this
  simpa using this
theorem inR_seqB {id l0 n : Nat} {Q : Exit → Act → World → Prop} {a : Act} {w : World} {l : List Oper} {rest : Code} (bad : Nat → Prop) (f : Nat) (wild : List Nat) (hmx : P.follows .mixedOrders = true) (hB : seqB l.toArray f wild = true) (hd : l.toArray.all noDefer = true) (hno : ¬ LetsOut Q)
    (h : ∀ K : Act → World → Prop, (∀ a w, rest.wpIn (rnd l0) n P Q a w → K a w) → ∀ w0, Below w.heap.size w w0 → wpSeqB P w bad l.toArray f wild K 0 l a w0) : ((Code.region id l.toArray true).seq rest).wpIn (rnd l0) n P Q a w :=
  wpIn_seq_k fun K hK => wpIn_region_any hmx (wpAnyIn_of (Q := Exit.then K Q) hd (fun ⟨a, w, h⟩ => hno ⟨a, w, h⟩) _ _ _ _ _ (seq_core (Q := Exit.then K Q) (laterC w) (fun w' => ∃ s : LaterB w bad, w' = s.val) f wild hB (fun _ h => later_laterB h) (.of (Below.refl _ _).drew) (h K hK _ (Below.refl _ _).drew)))
theorem inR_lastB {id l0 n : Nat} {Q : Exit → Act → World → Prop} {a : Act} {w : World} {l : List Oper} (bad : Nat → Prop) (f : Nat) (wild : List Nat) (hmx : P.follows .mixedOrders = true) (hB : seqB l.toArray f wild = true) (hd : l.toArray.all noDefer = true) (hno : ¬ LetsOut Q)
    (h : ∀ w0, Below w.heap.size w w0 → wpSeqB P w bad l.toArray f wild (fun a' w' => Q .normal a' w') 0 l a w0) : (Code.region id l.toArray true).wpIn (rnd l0) n P Q a w :=
  wpIn_region_any hmx (wpAnyIn_of hd hno _ _ _ _ _ (seq_core (Q := Q) (laterC w) (fun w' => ∃ s : LaterB w bad, w' = s.val) f wild hB (fun _ h => later_laterB h) (.of (Below.refl _ _).drew) (h _ (Below.refl _ _).drew)))
end
end Go.Proofs.YtnlhjhpikjmoaaaGreatDoor
namespace Go.Proofs.YtnlhjhpikjmoaaaGreatDoor
open Go.RowKit
theorem grow_zero (w : World) : Calls Tryz.prog 107 #[.slice none 0 0, .int .i64 0] w fun e w' => e = .returned (.slice none 0 0) ∧ w' = w := by
  go_enter Tryz.func107, Tryz.ntmps107
  go_wp2
  go_ret
  exact ⟨rfl, rfl⟩
set_option maxRecDepth 100000 in
theorem grow_some (n : Nat) (w : World) (h0 : 0 < n) (hn : n ≤ 1000000000) : Calls Tryz.prog 107 #[.slice none 0 0, .int .i64 n] w fun e w' =>
    (∃ c, e = .returned (.slice (some ⟨w.heap.size, 0, none⟩) 0 c) ∧ OwnB w.heap.size w' (some ⟨w.heap.size, 0, none⟩) 0 c []) ∧ Below w.heap.size w w' := by
  obtain ⟨i0, hi0, hz0, hz1, hz2⟩ := info_parts Tryz.infoU8
  have hr := fun ty w => Lib.run_append_nil_zeros (P := Tryz.prog) w 25 3 ty 5 i0 _ .i64 .i64 Tryz.underlying25 Tryz.underlying3 hi0 hz0 n h0 (by omega) (by omega) (by rw [hz2]; omega)
  have h1 : ¬ ((n : Int) < 0) := by omega
  have h4 : (n : Int) > 0 := by omega
  have h3 : wrap64 ((n : Int) - 0) = n := by unfold wrap64; omega
  go_enter Tryz.func107, Tryz.ntmps107
  go_wp2_with (at_builtin; refine Lib.wpList_append_run _ rfl _ _ _ _ rfl _ _ rfl rfl _ _ (hr _ _) ?_)
  have hge := grownCap_ge w n 0 5
  have hle := grownCap_le_maxLen w n 0 5 (by unfold maxLen; omega)
  go_ret
  refine ⟨⟨_, rfl, ?_⟩, ((Below.refl _ _).alloc (Nat.le_refl _) _).drew⟩
  exact World.ownsRow_made w _ _ (Nat.le_refl _) hle (by rw [Array.size_append, size_zeroCells, size_zeroCells]; simp; omega)
theorem grow_any (n : Nat) (w : World) (hn : n ≤ 1000000000) : Calls Tryz.prog 107 #[.slice none 0 0, .int .i64 n] w fun e w' =>
    (∃ A c, e = .returned (.slice A 0 c) ∧ OwnB w.heap.size w' A 0 c []) ∧ Below w.heap.size w w' := by
  rcases Nat.eq_zero_or_pos n with h0 | h0
  · subst h0
    exact (grow_zero w).mono fun e w' ⟨he, hw⟩ => by subst hw; exact ⟨⟨none, 0, he, OwnB.nil_ _ _⟩, Below.refl _ _⟩
  · exact (grow_some n w h0 hn).mono fun e w' ⟨⟨c, he, ho⟩, hb⟩ => ⟨⟨_, c, he, ho⟩, hb⟩
set_option maxRecDepth 100000 in
set_option maxHeartbeats 3200000 in
theorem concat_any {ok ok2 : Nat → Prop} (g : Nat) (u v : Value) (l p : List UInt8) (w : World) (h0 : w.cell? ⟨g, 0, none⟩ = some u) (h1 : w.cell? ⟨g, 1, none⟩ = some v) (hu : RB ok w u l) (hv : RB ok2 w v p) (hl : l.length ≤ 100000000) (hp : p.length ≤ 100000000) :
    Calls Tryz.prog 98 #[.slice (some ⟨g, 0, none⟩) 2 2] w fun e w' => (∃ A c, e = .returned (.slice A (l ++ p).length c) ∧ OwnB w.heap.size w' A (l ++ p).length c (l ++ p)) ∧ Below w.heap.size w w' := by
  obtain ⟨A, c, rfl, _, _, ru, _⟩ := hu.open_
  obtain ⟨B, d, rfl, _, _, rv, _⟩ := hv.open_
  have e1 : wrap64 (0 + (l.length : Int)) = (l.length : Int) := by unfold wrap64; omega
  have e2 : wrap64 ((l.length : Int) + (p.length : Int)) = ((l.length + p.length : Nat) : Int) := by unfold wrap64; omega
  have g1 : ¬ ((l.length : Int) < 0) := by omega
  have g2 : ¬ (((l.length + p.length : Nat) : Int) < 0) := by omega
  rw [List.length_append]
  generalize hL : l.length = L at *
  generalize hM : p.length = M at *
  go_enter Tryz.func98, Tryz.ntmps98
  go_wp2
  refine wp_loop_rounds 3 ?_
  rw [rounds_succ]
  go_wp2
  rw [rounds_succ]
  go_wp2
  rw [rounds_succ]
  go_wp2_with fail
  refine (grow_any (L + M) _ (by omega)).mono ?_
  rintro e w1 ⟨⟨A1, c1, rfl, ho1⟩, hb1⟩
  have hlt := World.block_lt_of_cell? w _ h0
  have k0 : w1.cell? ⟨g, 0, none⟩ = some (.slice A L c) := (hb1.cell (p := ⟨g, 0, none⟩) hlt).trans h0
  have k1 : w1.cell? ⟨g, 1, none⟩ = some (.slice B M d) := (hb1.cell (p := ⟨g, 1, none⟩) hlt).trans h1
  clear h0 h1
  go_wp2
  refine wp_loop_rounds 3 ?_
  rw [rounds_succ]
  go_wp2_with (at_builtin; refine wp_append_bytes rfl _ _ rfl w.heap.size A1 0 c1 [] _ rfl ho1 A L c l rfl (ru.below hb1) (by omega) hb1.size ?_)
  intro A2 c2 w2 ho2 hb2
  have k1' : w2.cell? ⟨g, 1, none⟩ = some (.slice B M d) := (hb2.cell (p := ⟨g, 1, none⟩) hlt).trans k1
  clear k0 k1
  go_wp2
  rw [rounds_succ]
  go_wp2_with (at_builtin; refine wp_append_bytes rfl _ _ rfl w.heap.size A2 L c2 l _ rfl ho2 B M d p rfl (rv.below (hb1.trans hb2)) (by omega) (hb1.trans hb2).size ?_)
  intro A3 c3 w3 ho3 hb3
  go_wp2
  rw [rounds_succ]
  go_wp2
  go_ret
  exact ⟨⟨A3, c3, rfl, ho3⟩, (hb1.trans hb2).trans hb3⟩
end Go.Proofs.YtnlhjhpikjmoaaaGreatDoor
namespace Go.Proofs.YtnlhjhpikjmoaaaGreatDoor
open Go.RowKit Go.Shelf
attribute [local go_sem] Oper.semAt_some
def ckN (n k : Nat) : Nat := min 48 (n - 48 * k)
def ckV (b off n k : Nat) : Value := .slice (some ⟨b, off + 48 * k, none⟩) (ckN n k) (ckN n k)
def KqC (b0 b1 : Nat) (W W' : World) : Prop := (∀ u, W.cell? ⟨b0, 0, none⟩ = some u → W'.cell? ⟨b0, 0, none⟩ = some u) ∧ (∀ u, W.cell? ⟨b1, 0, none⟩ = some u → W'.cell? ⟨b1, 0, none⟩ = some u)
set_option maxRecDepth 100000 in
set_option maxHeartbeats 3200000 in
theorem chunk1_in (n : Nat) (hn : 1 ≤ n) (l b0 b1 b off len cap : Nat) (hlen : len ≤ 1000000) (hcap : len ≤ cap) (J Jx : List Nat → World → Prop)
    (hJ : ∀ s W W', J s W → Below W.heap.size W W' → J s W')
    (hY : ∀ pre x W, J pre W → pre.length < (len + 47) / 48 → YieldAt Fence.wide (n - 1) Tryz.prog l #[ckV b off len x] W fun e W' =>
      (e = .returned (.bool true) ∧ J (pre ++ [x]) W' ∧ KqC b0 b1 W W') ∨ (e = .returned (.bool false) ∧ Jx (pre ++ [x]) W'))
    (W : World) (h0 : W.cell? ⟨b0, 0, none⟩ = some (.slice (some ⟨b, off, none⟩) len cap)) (h1 : W.cell? ⟨b1, 0, none⟩ = some (.int .i64 48)) (hJ0 : J [] W) :
    CallsIn Fence.wide n Tryz.prog 108 #[.func (.yield l) #[] #[], .pointer (some ⟨b0, 0, none⟩), .pointer (some ⟨b1, 0, none⟩)] W fun e W' => (∃ v, e = .returned v) ∧
      ((∃ ys, ys = List.range ((len + 47) / 48) ∧ J ys W') ∨ (∃ pre, (∃ k, k ≤ (len + 47) / 48 ∧ pre = List.range k) ∧ Jx pre W')) := by
  refine callsIn_of_wp Tryz.func108 rfl trivial ?_ rfl
  simp only [Tryz.ntmps108, List.size_toArray, List.length_cons, List.length_nil, Nat.reduceAdd, Nat.reduceSub, Array.replicate_succ, Array.replicate_zero, List.push_toArray, List.append_toArray, List.nil_append, List.cons_append]
  gi_wp2
  gi_loopw [4] (fun i wr => ∃ k : Nat, k ≤ (len + 47) / 48 ∧ i = .int .i64 (48 * (k : Int)) ∧ J (List.range k) wr ∧ wr.cell? ⟨b0, 0, none⟩ = some (.slice (some ⟨b, off, none⟩) len cap) ∧ wr.cell? ⟨b1, 0, none⟩ = some (.int .i64 48)) (fun i _ => 2 * len + 100 - (intOf i).toNat)
  case atStart => exact ⟨0, Nat.zero_le _, rfl, hJ0, h0, h1⟩
  case round =>
    obtain ⟨k, hk, rfl, hJs, hc0, hc1⟩ := hrel
    by_cases hlt : 48 * k < len
    · have t0 : decide (48 * (k : Int) < (len : Int)) = true := decide_eq_true (by omega)
      have y0 : ∀ s : Later wr, s.val.cell? ⟨b0, 0, none⟩ = some (.slice (some ⟨b, off, none⟩) len cap) := Later.cell hc0
      have y1 : ∀ s : Later wr, s.val.cell? ⟨b1, 0, none⟩ = some (.int .i64 48) := Later.cell hc1
      have r1 : 48 * k ≤ len := by omega
      have r2 : 48 * (k : Int) ≤ (len : Int) := by omega
      have r3 : (0 : Int) ≤ 48 * (k : Int) := by omega
      gi_wp2
      refine wpIn_wide.2 ?_
      refine wp_seqL [] (by as_aux_lemma => kernel_rfl) (by as_aux_lemma => kernel_rfl) fun w2 hb2 => ?_
      refine seqL_pre 7 (by kernel_rfl) ?_
      simp only [List.take_succ_cons, List.take_zero, List.drop_succ_cons, List.drop_zero]
      repeat (go_big_quiet_step (fail))
      refine wpQuiet_nil ?_
      refine seqL_nil ?_
      have hck : (if ((len - 48 * k : Nat) : Int) < 48 then ((len - 48 * k : Nat) : Int) else 48) = ((ckN len k : Nat) : Int) := by
        unfold ckN
        split <;> omega
      rw [hck]
      obtain ⟨m, hm⟩ : ∃ m, m = ckN len k := ⟨_, rfl⟩
      have hm1 : 48 * k + m ≤ len := by rw [hm]; unfold ckN; omega
      have hm2 : (48 * (k : Int) + (m : Int)) ≤ (len : Int) := by omega
      have hm3 : m ≤ 48 := by rw [hm]; unfold ckN; omega
      have hm4 : ¬ m = 0 := by rw [hm]; unfold ckN; omega
      have hm5 : 0 < m := by omega
      have hJ2 := hJ _ _ _ hJs hb2
      have d0 := y0 ⟨w2, hb2⟩
      have d1 := y1 ⟨w2, hb2⟩
      obtain ⟨fn, tmps, assign, body, hy, hR⟩ := hY (List.range k) k w2 hJ2 (by rw [List.length_range]; omega)
      unfold ckV at hy
      rw [← hm] at hy ⊢
      have HM := Lib.hid hm
      clear hck hm y0 y1
      simp only at d0 d1
      gi_wp2
      refine hR.mono ?_
      rintro e W3 (⟨rfl, hJ3, hk3⟩ | ⟨rfl, hJx3⟩)
      · have e0 := hk3.1 _ d0
        have e1 := hk3.2 _ d1
        clear d0 d1
        gi_wp2
        go_roundw
        case rel => exact ⟨k + 1, by omega, by go_num, by rw [List.range_succ]; exact hJ3, e0, e1⟩
        case measure => simp [intOf]; omega
      · clear d0 d1
        gi_wp2
        refine bodyPost_ret (results_none rfl _ _ _) rfl ?_
        exact ⟨⟨_, rfl⟩, .inr ⟨_, ⟨k + 1, by omega, (List.range_succ).symm⟩, hJx3⟩⟩
    · obtain rfl : k = (len + 47) / 48 := by omega
      have t0 : decide (48 * (((len + 47) / 48 : Nat) : Int) < (len : Int)) = false := decide_eq_false (by omega)
      gi_wp2
      go_end0
      exact ⟨⟨_, rfl⟩, .inl ⟨_, rfl, hJs⟩⟩
theorem chunk_stops (n : Nat) (hn : 1 ≤ n) (b0 b1 b off len cap : Nat) (hlen : len ≤ 1000000) (hcap : len ≤ cap) (w : World) (h0 : w.cell? ⟨b0, 0, none⟩ = some (.slice (some ⟨b, off, none⟩) len cap)) (h1 : w.cell? ⟨b1, 0, none⟩ = some (.int .i64 48)) :
    SeqStopsK Fence.wide n Tryz.prog 108 #[.pointer (some ⟨b0, 0, none⟩), .pointer (some ⟨b1, 0, none⟩)] (fun k : Nat => #[ckV b off len k]) (KqC b0 b1) (fun ys => ys = List.range ((len + 47) / 48)) (fun pre => ∃ k, k ≤ (len + 47) / 48 ∧ pre = List.range k) ((len + 47) / 48) w := fun l J Jx W hW hJ _ hY hj => by
  have hb0 := World.block_lt_of_cell? w _ h0
  have hb1 := World.block_lt_of_cell? w _ h1
  exact chunk1_in n hn l b0 b1 b off len cap hlen hcap J Jx (fun s X Y hs hb => hJ s X Y none hs ⟨hb.os, hb.tape, hb.output, hb.size, fun k hk _ => hb.block k hk⟩ (fun r e => by cases e)) hY W ((hW.cell (p := ⟨b0, 0, none⟩) hb0).trans h0) ((hW.cell (p := ⟨b1, 0, none⟩) hb1).trans h1) hj
set_option maxRecDepth 100000 in
theorem chunk_any (A : Option Addr) (n c : Nat) (w : World) : Calls Tryz.prog 100 #[.slice A n c, .int .i64 48] w fun e w' =>
    e = .returned (.func (.func 108) #[] #[.pointer (some ⟨w.heap.size, 0, none⟩), .pointer (some ⟨w.heap.size + 1, 0, none⟩)]) ∧ Below w.heap.size w w' ∧ w.heap.size + 2 ≤ w'.heap.size ∧ w'.cell? ⟨w.heap.size, 0, none⟩ = some (.slice A n c) ∧ w'.cell? ⟨w.heap.size + 1, 0, none⟩ = some (.int .i64 48) := by
  go_enter Tryz.func100, Tryz.ntmps100
  go_wp2
  go_ret
  exact ⟨rfl, ((Below.refl _ _).alloc (Nat.le_refl _) _).alloc (by simp) _, by simp, ((Blk.new w _ _).alloc _).cell 0, (Blk.new_ (by simp)).cell 0⟩
end Go.Proofs.YtnlhjhpikjmoaaaGreatDoor
