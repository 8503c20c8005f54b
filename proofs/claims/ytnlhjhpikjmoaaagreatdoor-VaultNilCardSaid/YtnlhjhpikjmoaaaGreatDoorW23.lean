/- (*Log).next: the plain function; a length in three bytes.
(*Log).next: the walk. -/
import Derived.Test.YtnlhjhpikjmoaaaGreatDoorW21
import Derived.Test.YtnlhjhpikjmoaaaGreatDoorS0
import Derived.Deep.DeepCutAuto
namespace Go.Proofs.YtnlhjhpikjmoaaaGreatDoor
open Go.RowKit

theorem i64_or_nat (a b : Nat) (ha : a < 4294967296) (hb : b < 4294967296) : bits .or .i64 (a : Int) (b : Int) = ((a ||| b : Nat) : Int) := by
  have hx : a ||| b < 2 ^ 32 := Nat.or_lt_two_pow (by omega) (by omega)
  have h1 : (BitVec.ofInt 64 (a : Int)).toNat = a := by
    rw [BitVec.ofInt_natCast, BitVec.toNat_ofNat]; exact Nat.mod_eq_of_lt (by omega)
  have h2 : (BitVec.ofInt 64 (b : Int)).toNat = b := by
    rw [BitVec.ofInt_natCast, BitVec.toNat_ofNat]; exact Nat.mod_eq_of_lt (by omega)
  show IntKind.i64.wrap ((BitVec.ofInt 64 (a : Int) ||| BitVec.ofInt 64 (b : Int)).toNat : Int) = _
  rw [BitVec.toNat_or, h1, h2, IntKind.wrap_i64]
  omega
/-- a record's length: three bytes -/
def rd3 (b : List UInt8) : Nat := (b.getD 0 0).toNat * 65536 + (b.getD 1 0).toNat * 256 + (b.getD 2 0).toNat
theorem or3 (x y z : UInt8) : bits .or .i64 (bits .or .i64 ((x.toNat : Int) * 65536) ((y.toNat : Int) * 256)) (z.toNat : Int) = ((x.toNat * 65536 + y.toNat * 256 + z.toNat : Nat) : Int) := by
  have hx := x.toNat_lt
  have hy := y.toNat_lt
  have hz := z.toNat_lt
  rw [show (x.toNat : Int) * 65536 = ((x.toNat * 65536 : Nat) : Int) by omega, show (y.toNat : Int) * 256 = ((y.toNat * 256 : Nat) : Int) by omega, i64_or_nat _ _ (by omega) (by omega), nat_join 16 (x.toNat * 65536) (y.toNat * 256) (by omega) (by omega), i64_or_nat _ _ (by omega) (by omega), nat_join 8 (x.toNat * 65536 + y.toNat * 256) z.toNat (by omega) (by omega)]
theorem three_ : ∀ (l : List UInt8), 3 ≤ l.length → ∃ x y z tl, l = x :: y :: z :: tl
  | x :: y :: z :: tl, _ => ⟨x, y, z, tl, rfl⟩
  | [], h => absurd h (by decide)
  | [_], h => absurd h (by simp)
  | [_, _], h => absurd h (by simp)
/-- does a sector's turn not fit? -/
def misT (s : List UInt8) (t : Nat) : Prop := rdN s 0 = 0 ∨ rdN s 0 ≠ rdN s 56 ∨ (t ≠ 0 ∧ rdN s 0 ≠ t)
instance (s : List UInt8) (t : Nat) : Decidable (misT s t) := by unfold misT; exact inferInstance
/-- next's rounds: k sectors of the ring are left -/
def nextF (d : DskD) (e0 ring t : Nat) : Nat → Nat → List UInt8 → Nat → List UInt8 × Bool × Int
  | 0, i, acc, n => if i = 0 ∨ acc.length < 3 + n then ([], false, 0) else ((acc.drop 3).take n, true, 0)
  | k + 1, i, acc, n => if i = 0 ∨ acc.length < 3 + n then
      (if (d.read ((2 + (e0 + i) % ring : Nat) : Int)).2 ≠ 0 then ([], false, (d.read ((2 + (e0 + i) % ring : Nat) : Int)).2) else
       if misT (d.read ((2 + (e0 + i) % ring : Nat) : Int)).1 t then ([], false, 0) else
       if 32768 < (if i = 0 then rd3 (acc ++ ((d.read ((2 + (e0 + i) % ring : Nat) : Int)).1.drop 8).take 48) else n) then ([], false, 0) else
       nextF d e0 ring t k (i + 1) (acc ++ ((d.read ((2 + (e0 + i) % ring : Nat) : Int)).1.drop 8).take 48) (if i = 0 then rd3 (acc ++ ((d.read ((2 + (e0 + i) % ring : Nat) : Int)).1.drop 8).take 48) else n))
    else ((acc.drop 3).take n, true, 0)
/-- the record at the log's end -/
def nextL (l : LogD) (d : DskD) (t : Nat) : List UInt8 × Bool × Int := nextF d l.end_ (d.kept.length - 2) t (d.kept.length - 2 - l.used) 0 [] 0
theorem nextF_end (d : DskD) (e0 ring t k i : Nat) (acc : List UInt8) (n : Nat) (h : ¬ (i = 0 ∨ acc.length < 3 + n)) : nextF d e0 ring t k i acc n = ((acc.drop 3).take n, true, 0) := by
  cases k <;> rw [nextF, if_neg h]
theorem nextF_full (d : DskD) (e0 ring t i : Nat) (acc : List UInt8) (n : Nat) (h : i = 0 ∨ acc.length < 3 + n) : nextF d e0 ring t 0 i acc n = ([], false, 0) := by
  rw [nextF, if_pos h]
end Go.Proofs.YtnlhjhpikjmoaaaGreatDoor

namespace Go.Proofs.YtnlhjhpikjmoaaaGreatDoor
open Go.RowKit

set_option maxRecDepth 100000 in
set_option maxHeartbeats 6400000 in
theorem lnext_any {f : Nat → Prop} {gl gd : Nat} {l : LogD} {d : DskD} {w : World} (t : Nat) (ht : t < 18446744073709551616) (h : Both f w gl gd l d) (h3 : 3 ≤ d.kept.length) :
    Calls Tryz.prog 78 #[.pointer (some ⟨gl, 0, none⟩), .int .u64 (t : Int)] w fun e w' => (∃ v, e = .returned (.tuple #[v, .bool (nextL l d t).2.1, .int .i64 (nextL l d t).2.2]) ∧ RB (fun b => w.heap.size ≤ b) w' v (nextL l d t).1) ∧ Below w.heap.size w w' := by
  obtain ⟨fl, fd, f1, f2, f3, hl, hd⟩ := h
  obtain ⟨ring, hring⟩ : ∃ ring, ring = d.kept.length - 2 := ⟨_, rfl⟩
  have hdl := hd.ok
  have hlo := hl.ok
  have hri : (d.kept.length : Int) - 2 = (ring : Int) := by omega
  have hr1 : 1 ≤ ring := by omega
  have hr2 : ring ≤ 65534 := by omega
  have HL := Lib.hid hl
  have HD := Lib.hid hd
  obtain ⟨R, hR⟩ : ∃ R, R = nextL l d t := ⟨_, rfl⟩
  rw [← hR]
  have hR0 : R = nextF d l.end_ ring t (ring - l.used - 0) 0 [] 0 := by rw [hR, nextL, hring]; rfl
  have hend := hlo.end_
  have huse := hlo.used
  obtain ⟨vr, vp, hb, _⟩ := hl
  obtain ⟨c0, c1, c2, c3, c4, c5, c6, c7, c8⟩ := lg_cells hb
  have HRI := Lib.hid hri
  clear hb c1 c2 c3 c4 c5 c8 hR hring hdl hlo hd hri
  go_enter Tryz.func78, Tryz.ntmps78
  go_wp2
  go_loopw [8, 9, 10] (fun v nn j wr => ∃ (i n : Nat) (acc : List UInt8) (A : Option Addr) (c : Nat), v = .slice A (48 * i) c ∧ nn = .int .i64 (n : Int) ∧ j = .int .i64 (i : Int) ∧ OwnB w.heap.size wr A (48 * i) c acc ∧ Below w.heap.size w wr ∧ i ≤ ring ∧ n ≤ 32768 ∧ Hid (R = nextF d l.end_ ring t (ring - l.used - i) i acc n)) (fun _ _ j _ => ring + 1 - (intOf j).toNat)
  case atStart => exact ⟨0, 0, [], none, 0, rfl, rfl, rfl, OwnB.nil_ _ _, Below.refl _ _, by omega, by omega, Lib.hid hR0⟩
  clear hR0
  case round =>
    obtain ⟨i, n, acc, A, c, rfl, rfl, rfl, hown, hbw, hi, hn, HR⟩ := hrel
    have hacc := hown.len
    have hcap := hown.cap
    by_cases hc : i = 0 ∨ acc.length < 3 + n
    case neg =>
      have hRn : R = ((acc.drop 3).take n, true, 0) := by rw [HR.out, nextF_end _ _ _ _ _ _ _ _ hc]
      have HRn := Lib.hid hRn
      have hi0 : ¬ i = 0 := fun e => hc (.inl e)
      have hn3 : 3 + n ≤ 48 * i := by have : ¬ acc.length < 3 + n := fun e => hc (.inr e); omega
      have z0 : ((i : Int) == 0) = false := by simpa using hi0
      have z1 : decide ((i : Int) = 0) = false := decide_eq_false (by omega)
      have z2 : decide (48 * (i : Int) < 3 + (n : Int)) = false := decide_eq_false (by omega)
      have z3 : decide ((48 * i : Nat) < 3 + n) = false := decide_eq_false (by omega)
      obtain ⟨b9, o9, rfl, hcell9⟩ := hown.rd.2 (by omega)
      have hrd := (hown.rd.drop (k := 3) (by omega) hcap).take (k := n) (by omega)
      rw [if_neg (by omega)] at hrd
      simp only [Option.map_some, Addr.add_lit] at hrd
      have hl2 : (bs acc).drop (3 * 1) = bs (acc.drop 3) := by unfold bs; rw [List.map_drop]
      have hl3 : (bs (acc.drop 3)).take (n * 1) = bs ((acc.drop 3).take n) := by unfold bs; rw [List.map_take, Nat.mul_one]
      rw [hl2, hl3] at hrd
      have hcl := clone_rb (ok := fun _ => True) (.slice (some ⟨b9, o9 + 3, none⟩) n (c - 3)) _ wr (RB.mk_ hrd (by omega) (by omega) fun _ _ _ => trivial)
      have HCL := Lib.hid hcl
      clear hcl hrd hl2 hl3 hcell9 hRn hown
      go_wp2_with fail
      refine HCL.out.mono ?_
      rintro e w2 ⟨⟨v2, rfl, hv2⟩, hb2⟩
      have hz := hbw.size
      go_wp2
      go_ret3
      rw [HRn.out]
      exact ⟨⟨_, rfl, hv2.mono (by decide) fun b hb _ => by omega⟩, hbw.trans (hb2.mono hz)⟩
    go_upto_region 5 with fail
    go_cut [22] (fun v22 wx => v22 = .bool true ∧ wx = wr)
    case first =>
      have hcl : Hid (i = 0 ∨ acc.length < 3 + n) := Lib.hid hc
      clear hc
      by_cases hi0 : i = 0
      · subst hi0
        go_wp2_with fail
        go_meet
        exact ⟨rfl, rfl⟩
      · have z0 : ((i : Int) == 0) = false := by simpa using hi0
        have z1 : decide ((i : Int) = 0) = false := decide_eq_false (by omega)
        have hlt : acc.length < 3 + n := hcl.out.elim (fun h => absurd h hi0) id
        have z2 : decide (48 * (i : Int) < 3 + (n : Int)) = true := decide_eq_true (by omega)
        have z3 : decide ((48 * i : Nat) < 3 + n) = true := decide_eq_true (by omega)
        clear hlt
        go_wp2_with fail
        go_meet
        exact ⟨rfl, rfl⟩
    obtain ⟨rfl, hwx⟩ := hcut
    rw [hwx]
    clear hwx
    have hLr := HL.out.below hbw
    have hDr := HD.out.below hbw
    have hgl : gl < w.heap.size := by obtain ⟨vr, vp, hb, _⟩ := HL.out; exact hb.lt
    have d0 : ∀ s : Later wr, s.val.cell? ⟨gl, 0, none⟩ = some (.pointer (some ⟨gd, 0, none⟩)) := Later.cell ((hbw.cell hgl).trans c0)
    have d6 : ∀ s : Later wr, s.val.cell? ⟨gl, 6, none⟩ = some (.int .i64 (l.end_ : Int)) := Later.cell ((hbw.cell hgl).trans c6)
    have d7 : ∀ s : Later wr, s.val.cell? ⟨gl, 7, none⟩ = some (.int .i64 (l.used : Int)) := Later.cell ((hbw.cell hgl).trans c7)
    go_upto_region 7 with fail
    refine wp_seqL [7] (by as_aux_lemma => kernel_rfl) (by as_aux_lemma => kernel_rfl) fun w2 hb2 => ?_
    refine seqL_pre 7 (by kernel_rfl) ?_
    simp only [List.take_succ_cons, List.take_zero, List.drop_succ_cons, List.drop_zero]
    repeat (go_big_quiet_step (fail))
    refine wpQuiet_nil ?_
    refine seqL_wild hb2 rfl rfl fun K hK => ?_
    unfold Gives
    go_simp
    refine (ring_any (hLr.below hb2) (hDr.below hb2)).mono ?_
    rw [HRI.out]
    rintro e w3 ⟨rfl, rfl⟩
    refine ⟨_, rfl, hK _ _ ((Below.refl _ _)) fun hb3 => ?_⟩
    clear hK
    clear K
    simp only [Act.put, List.setIfInBounds_toArray, List.set_cons_succ, List.set_cons_zero]
    refine seqL_pre 1 (by kernel_rfl) ?_
    simp only [List.take_succ_cons, List.take_zero, List.drop_succ_cons, List.drop_zero]
    repeat (go_big_quiet_step (fail))
    refine wpQuiet_nil ?_
    refine seqL_nil ?_
    by_cases hfull : ring ≤ l.used + i
    · have hk0 : ring - l.used - i = 0 := by omega
      have hRf : R = ([], false, 0) := by rw [HR.out, hk0, nextF_full _ _ _ _ _ _ _ hc]
      have HRf := Lib.hid hRf
      have v0 : decide ((ring : Int) ≤ (l.used : Int) + (i : Int)) = true := decide_eq_true (by omega)
      rw [v0]
      clear hRf hk0 hfull hc
      go_wp2
      go_ret3
      rw [HRf.out]
      exact ⟨⟨_, rfl, RSl.nil_ _ _ _⟩, hbw.trans (hb3.mono hbw.size)⟩
    have v0 : decide ((ring : Int) ≤ (l.used : Int) + (i : Int)) = false := decide_eq_false (by omega)
    rw [v0]
    obtain ⟨k, hk⟩ : ∃ k, ring - l.used - i = k + 1 := ⟨ring - l.used - i - 1, by omega⟩
    have hk2 : ring - l.used - (i + 1) = k := by omega
    obtain ⟨q, hq⟩ : ∃ q : List UInt8 × Int, q = d.read ((2 + (l.end_ + i) % ring : Nat) : Int) := ⟨_, rfl⟩
    have hR1 := HR.out
    rw [hk, nextF, if_pos hc, ← hq] at hR1
    have hRA := HD.out
    have HRD := Lib.hid (fun (w' : World) (hb : Below w.heap.size w w') => dRead_any (HD.out.below hb) ((2 + (l.end_ + i) % ring : Nat) : Int) (by have := Nat.mod_lt (l.end_ + i) (show 0 < ring by omega); constructor <;> omega))
    rw [← hq] at HRD
    have hq64 : q.2 = 0 → q.1.length = 64 := fun h0 => by
      rw [hq] at h0 ⊢
      unfold DskD.read at h0 ⊢
      by_cases hd : d.down = true
      · rw [if_pos hd] at h0; exact absurd h0 (by decide)
      · rw [if_neg hd] at h0 ⊢
        by_cases hb : ((2 + (l.end_ + i) % ring : Nat) : Int) < 0 ∨ (d.kept.length : Int) ≤ ((2 + (l.end_ + i) % ring : Nat) : Int)
        · rw [if_pos hb] at h0; exact absurd h0 (by decide)
        · rw [if_neg hb]
          exact DskD.shown_64 HD.out.ok.1 (by omega)
    obtain ⟨S, E⟩ := q
    simp only at hR1 HRD hq64
    have HR1 := Lib.hid hR1
    have HQ := Lib.hid hq64
    have HK2 := Lib.hid hk2
    have r0 : ((ring : Int) == 0) = false := by simpa using (show ¬ (ring : Int) = 0 by omega)
    have r0' : decide ((ring : Int) = 0) = false := decide_eq_false (by omega)
    have e0 : ∀ s : Later w3, s.val.cell? ⟨gl, 0, none⟩ = some (.pointer (some ⟨gd, 0, none⟩)) := Later.cell (d0 ⟨w3, hb3⟩)
    have e6 : ∀ s : Later w3, s.val.cell? ⟨gl, 6, none⟩ = some (.int .i64 (l.end_ : Int)) := Later.cell (d6 ⟨w3, hb3⟩)
    have hbw3 : Below w.heap.size w w3 := hbw.trans (hb3.mono hbw.size)
    have hown3 := hown.belowB hb3
    clear hR1 hq64 hk2 hq hRA d0 d6 d7 hk hown HR
    go_upto_region 9 with fail
    refine wp_seqL [12, 15] (by as_aux_lemma => kernel_rfl) (by as_aux_lemma => kernel_rfl) fun w4 hb4 => ?_
    refine seqL_pre 12 (by kernel_rfl) ?_
    simp only [List.take_succ_cons, List.take_zero, List.drop_succ_cons, List.drop_zero]
    repeat (go_big_quiet_step (fail))
    refine wpQuiet_nil ?_
    refine seqL_wild hb4 rfl rfl fun K hK => ?_
    unfold Gives
    go_simp
    refine (ring_any (HL.out.below (hbw3.trans (hb4.mono hbw3.size))) (HD.out.below (hbw3.trans (hb4.mono hbw3.size)))).mono ?_
    rw [HRI.out]
    rintro e w5 ⟨rfl, rfl⟩
    refine ⟨_, rfl, hK _ _ ((Below.refl _ _)) fun hb5 => ?_⟩
    clear hK
    clear K
    simp only [Act.put, List.setIfInBounds_toArray, List.set_cons_succ, List.set_cons_zero]
    refine seqL_pre 2 (by kernel_rfl) ?_
    simp only [List.take_succ_cons, List.take_zero, List.drop_succ_cons, List.drop_zero]
    repeat (go_big_quiet_step (fail))
    refine wpQuiet_nil ?_
    refine seqL_wild hb5 rfl rfl fun K hK => ?_
    unfold Gives
    go_simp
    have hmd := Nat.mod_lt (l.end_ + i) (show 0 < ring by omega)
    have hwp : wrap64 (2 + ((l.end_ : Int) + (i : Int)) % (ring : Int)) = ((2 + (l.end_ + i) % ring : Nat) : Int) := by
      rw [show (2 + ((l.end_ : Int) + (i : Int)) % (ring : Int)) = ((2 + (l.end_ + i) % ring : Nat) : Int) by rw [Int.natCast_add, Int.natCast_emod, Int.natCast_add]; rfl]
      exact IntWalk.wrap64_in _ (by omega)
    rw [hwp]
    refine (HRD.out _ (hbw3.trans (hb5.mono hbw3.size))).mono ?_
    clear hwp hmd
    rintro e w6 ⟨⟨vs, rfl, hvs⟩, hb6⟩
    refine ⟨_, rfl, hK _ _ (hb6) fun hb7 => ?_⟩
    clear hK
    clear K
    simp only [Act.put, List.setIfInBounds_toArray, List.set_cons_succ, List.set_cons_zero]
    refine seqL_pre 5 (by kernel_rfl) ?_
    simp only [List.take_succ_cons, List.take_zero, List.drop_succ_cons, List.drop_zero]
    repeat (go_big_quiet_step (fail))
    refine wpQuiet_nil ?_
    refine seqL_nil ?_
    have hB6 : Below w.heap.size w w6 := hbw3.trans (hb7.mono hbw3.size)
    have hown6 := hown3.belowB hb7
    have HHC := Lib.hid hc
    clear hc HRD hown3 e0 e6 hb5 hb4
    by_cases hE : E = 0
    case neg =>
      have hRf : R = ([], false, E) := by rw [HR1.out, if_pos hE]
      have HRf := Lib.hid hRf
      have t3 : (E == 0) = false := by simpa using hE
      have t4 : decide (E = 0) = false := decide_eq_false hE
      clear hRf
      go_wp2
      go_ret3
      rw [HRf.out]
      exact ⟨⟨_, rfl, RSl.nil_ _ _ _⟩, hB6⟩
    subst hE
    have hR2 := HR1.out
    rw [if_neg (by decide)] at hR2
    have HR2 := Lib.hid hR2
    have hS64 := HQ.out rfl
    clear hR2 HR1 HQ
    obtain ⟨A8, c8, rfl, hc8, _, hrd8, _⟩ := hvs.open_
    rw [hS64] at hrd8 hc8 ⊢
    obtain ⟨b8, o8, rfl, hcell8⟩ := hrd8.2 (by omega)
    have hcl8 : ∀ j (h : j < S.length), w6.cell? ⟨b8, o8 + j, none⟩ = some (.int .u8 ((S[j]).toNat : Int)) := fun j h => hcell8 j _ (by unfold bs; rw [List.getElem?_map, List.getElem?_eq_getElem h]; rfl)
    have HT0 := Lib.hid (take_at (k := 0) (n := 64) (c := c8) S w6 hcl8 (by omega) (by omega) hc8)
    have HT56 := Lib.hid (take_at (k := 56) (n := 8) (c := c8 - 56) S w6 hcl8 (by omega) (by omega) (by omega))
    obtain ⟨a, ha⟩ : ∃ a, a = rdN S 0 := ⟨_, rfl⟩
    obtain ⟨b, hb⟩ : ∃ b, b = rdN S 56 := ⟨_, rfl⟩
    rw [← ha] at HT0
    rw [← hb] at HT56
    have hmis : misT S t ↔ (a = 0 ∨ a ≠ b ∨ (t ≠ 0 ∧ a ≠ t)) := by unfold misT; rw [← ha, ← hb]
    have HM := Lib.hid hmis
    have HS64 := Lib.hid hS64
    have HRD8 := Lib.hid hrd8
    have HC8 := Lib.hid hcl8
    have hc8' : 56 ≤ c8 := by omega
    clear hmis hrd8 hcl8 hcell8 ha hb hS64 hvs
    go_upto_region 12 with fail
    go_wp2_with fail
    refine HT0.out.mono ?_
    rintro e w7 ⟨rfl, rfl⟩
    go_upto_region 13 with fail
    obtain ⟨mb, hmb⟩ : ∃ mb : Bool, mb = decide (misT S t) := ⟨_, rfl⟩
    have HMB := Lib.hid hmb
    clear hmb
    go_cut [75] (fun v75 wx => v75 = .bool mb ∧ wx = w7)
    case first =>
      by_cases ha0 : a = 0
      · have hm : mb = true := by rw [HMB.out]; exact decide_eq_true (HM.out.2 (.inl ha0))
        have z0 : ((a : Int) == 0) = true := by simpa using ha0
        have z1 : decide ((a : Int) = 0) = true := decide_eq_true (by omega)
        clear ha0
        go_wp2_with fail
        go_meet
        exact ⟨by rw [hm], rfl⟩
      have z0 : ((a : Int) == 0) = false := by simpa using ha0
      have z1 : decide ((a : Int) = 0) = false := decide_eq_false (by omega)
      by_cases hab : a = b
      case neg =>
        have hm : mb = true := by rw [HMB.out]; exact decide_eq_true (HM.out.2 (.inr (.inl hab)))
        have z2 : ((a : Int) == (b : Int)) = false := by simpa using (show ¬ (a : Int) = (b : Int) by omega)
        have z3 : decide ((a : Int) = (b : Int)) = false := decide_eq_false (by omega)
        have y3 : decide (a = b) = false := decide_eq_false hab
        have y4 : (a == b) = false := by simpa using hab
        have n1 : ((a : Int) != (b : Int)) = true := by simp only [bne_iff_ne, bne_eq_false_iff_eq, ne_eq]; omega
        have n2 : decide (¬ ((a : Int) = (b : Int))) = true := by simp only [decide_eq_true_eq, decide_eq_false_iff_not]; omega
        clear ha0 hab
        go_wp2_with fail
        refine HT56.out.mono ?_
        rintro e w8 ⟨rfl, rfl⟩
        go_wp2_with fail
        go_meet
        exact ⟨by rw [hm], rfl⟩
      subst hab
      have z2 : ((a : Int) == (a : Int)) = true := by simp
      have y2 : decide (a = a) = true := by simp
      have n1 : ((a : Int) != (a : Int)) = false := by simp
      have n2 : decide (¬ ((a : Int) = (a : Int))) = false := by simp
      by_cases ht0 : t = 0
      · have hm : mb = false := by rw [HMB.out]; exact decide_eq_false (fun h => by rcases HM.out.1 h with h | h | h <;> omega)
        have z4 : ((t : Int) == 0) = true := by simpa using ht0
        have z5 : decide ((t : Int) = 0) = true := decide_eq_true (by omega)
        have y5 : decide (t = 0) = true := decide_eq_true ht0
        have y6 : (t == 0) = true := by simpa using ht0
        have m1 : ((t : Int) != 0) = false := by simp only [bne_iff_ne, bne_eq_false_iff_eq, ne_eq]; omega
        have m2 : decide (¬ ((t : Int) = 0)) = false := by simp only [decide_eq_true_eq, decide_eq_false_iff_not]; omega
        clear ha0 ht0 ht
        go_wp2_with fail
        refine HT56.out.mono ?_
        rintro e w8 ⟨rfl, rfl⟩
        go_wp2_with fail
        go_meet
        exact ⟨by rw [hm], rfl⟩
      have z4 : ((t : Int) == 0) = false := by simpa using ht0
      have z5 : decide ((t : Int) = 0) = false := decide_eq_false (by omega)
      have y5 : decide (t = 0) = false := decide_eq_false ht0
      have y6 : (t == 0) = false := by simpa using ht0
      have m1 : ((t : Int) != 0) = true := by simp only [bne_iff_ne, bne_eq_false_iff_eq, ne_eq]; omega
      have m2 : decide (¬ ((t : Int) = 0)) = true := by simp only [decide_eq_true_eq, decide_eq_false_iff_not]; omega
      by_cases hat : a = t
      · have hm : mb = false := by rw [HMB.out]; exact decide_eq_false (fun h => by rcases HM.out.1 h with h | h | h <;> omega)
        have z6 : ((a : Int) == (t : Int)) = true := by simpa using (show (a : Int) = (t : Int) by omega)
        have z7 : decide ((a : Int) = (t : Int)) = true := decide_eq_true (by omega)
        have y7 : decide (a = t) = true := decide_eq_true hat
        have y8 : (a == t) = true := by simpa using hat
        have k1 : ((a : Int) != (t : Int)) = false := by simp only [bne_iff_ne, bne_eq_false_iff_eq, ne_eq]; omega
        have k2 : decide (¬ ((a : Int) = (t : Int))) = false := by simp only [decide_eq_true_eq, decide_eq_false_iff_not]; omega
        have z8 : ((t : Int) == (t : Int)) = true := by simp
        clear ha0 ht0 hat ht
        go_wp2_with fail
        refine HT56.out.mono ?_
        rintro e w8 ⟨rfl, rfl⟩
        go_wp2_with fail
        go_meet
        exact ⟨by rw [hm], rfl⟩
      · have hm : mb = true := by rw [HMB.out]; exact decide_eq_true (HM.out.2 (.inr (.inr ⟨ht0, hat⟩)))
        have z6 : ((a : Int) == (t : Int)) = false := by simpa using (show ¬ (a : Int) = (t : Int) by omega)
        have z7 : decide ((a : Int) = (t : Int)) = false := decide_eq_false (by omega)
        have y7 : decide (a = t) = false := decide_eq_false hat
        have y8 : (a == t) = false := by simpa using hat
        have k1 : ((a : Int) != (t : Int)) = true := by simp only [bne_iff_ne, bne_eq_false_iff_eq, ne_eq]; omega
        have k2 : decide (¬ ((a : Int) = (t : Int))) = true := by simp only [decide_eq_true_eq, decide_eq_false_iff_not]; omega
        clear ha0 ht0 hat ht
        go_wp2_with fail
        refine HT56.out.mono ?_
        rintro e w8 ⟨rfl, rfl⟩
        go_wp2_with fail
        go_meet
        exact ⟨by rw [hm], rfl⟩
    obtain ⟨rfl, hwx⟩ := hcut
    rw [hwx]
    clear hwx
    cases mb
    case true =>
      have hRf : R = ([], false, 0) := by rw [HR2.out, if_pos (of_decide_eq_true HMB.out.symm)]
      have HRf := Lib.hid hRf
      clear hRf
      go_wp2
      go_ret3
      rw [HRf.out]
      exact ⟨⟨_, rfl, RSl.nil_ _ _ _⟩, hB6⟩
    have hR3 := HR2.out
    rw [if_neg (of_decide_eq_false HMB.out.symm)] at hR3
    obtain ⟨P, hP⟩ : ∃ P, P = (S.drop 8).take 48 := ⟨_, rfl⟩
    rw [← hP] at hR3
    have HR3 := Lib.hid hR3
    have hP48 : P.length = 48 := by rw [hP, List.length_take, List.length_drop, HS64.out]; rfl
    have hrdP : Rd w7 1 (some ⟨b8, o8 + 8, none⟩) 48 (bs P) := by
      refine ⟨by rw [bs_len, hP48], fun _ => ⟨b8, o8 + 8, rfl, fun j u hu => ?_⟩⟩
      have hj : j < 48 := by have := (List.getElem?_eq_some_iff.1 hu).1; rw [bs_len, hP48] at this; exact this
      have h8 : 8 + j < S.length := by rw [HS64.out]; omega
      rw [Nat.add_assoc, HC8.out (8 + j) h8, ← hu, hP]
      unfold bs
      rw [List.getElem?_map, List.getElem?_take, if_pos hj, List.getElem?_drop, List.getElem?_eq_getElem h8]
      rfl
    have HP := Lib.hid hP
    have HP48 := Lib.hid hP48
    clear hP hP48 hR3 HR2 HMB HM HT56 HT0
    have hzz := hB6.size
    go_upto_region 16 with (at_builtin; refine wp_append_bytes rfl _ _ rfl w.heap.size A (48 * i) c acc w7 rfl hown6 (some ⟨b8, o8 + 8, none⟩) 48 (c8 - 8) P rfl hrdP (by omega) hzz ?_; intro A9 c9 w9 hown9 hb9)
    obtain ⟨acc9, hacc9⟩ : ∃ acc9, acc9 = acc ++ P := ⟨_, rfl⟩
    rw [← hacc9] at hown9
    have hl9 := hown9.len
    have hlt9 := hown9.cap
    obtain ⟨n9, hn9⟩ : ∃ n9, n9 = if i = 0 then rd3 acc9 else n := ⟨_, rfl⟩
    have hR4 := HR3.out
    rw [← hacc9, ← hn9] at hR4
    have HR4 := Lib.hid hR4
    have HA9 := Lib.hid hacc9
    have HN9 := Lib.hid hn9
    clear hR4 HR3 hacc9 hn9 hrdP HRD8 HC8 HP hown6
    obtain ⟨g9, o9, rfl, hc9⟩ := hown9.rd.2 (by omega)
    go_upto_if 81 with fail
    go_cut [9] (fun v9 wx => v9 = .int .i64 (n9 : Int) ∧ Below w9.heap.size w9 wx)
    case first =>
      by_cases hi0 : i = 0
      · subst hi0
        have hn9 : n9 = rd3 acc9 := by rw [HN9.out, if_pos rfl]
        obtain ⟨x, y, z, tl, rfl⟩ : ∃ x y z tl, acc9 = x :: y :: z :: tl := three_ acc9 (by omega)
        have q0 : ∀ s : Later w9, s.val.cell? ⟨g9, o9, none⟩ = some (.int .u8 (x.toNat : Int)) := Later.cell (hc9 0 _ rfl)
        have q1 : ∀ s : Later w9, s.val.cell? ⟨g9, o9 + 1, none⟩ = some (.int .u8 (y.toNat : Int)) := Later.cell (hc9 1 _ rfl)
        have q2 : ∀ s : Later w9, s.val.cell? ⟨g9, o9 + 2, none⟩ = some (.int .u8 (z.toNat : Int)) := Later.cell (hc9 2 _ rfl)
        have hor := or3 x y z
        have hx := x.toNat_lt
        have hy := y.toNat_lt
        have hz := z.toNat_lt
        have hn9' : n9 = x.toNat * 65536 + y.toNat * 256 + z.toNat := by rw [hn9]; rfl
        have HOR := Lib.hid hor
        have HNN := Lib.hid hn9'
        clear hor hn9' hn9 hc9
        go_upto_region 17 with fail
        refine wp_seqL [] (by as_aux_lemma => kernel_rfl) (by as_aux_lemma => kernel_rfl) fun w10 hb10 => ?_
        refine seqL_pre 17 (by kernel_rfl) ?_
        simp only [List.take_succ_cons, List.take_zero, List.drop_succ_cons, List.drop_zero]
        repeat (go_big_quiet_step (fail))
        refine wpQuiet_nil ?_
        refine seqL_nil ?_
        go_wp2
        go_meet
        exact ⟨by rw [HOR.out, HNN.out], hb10⟩
      · have u0 : ((i : Int) == 0) = false := by simpa using hi0
        have u1 : decide ((i : Int) = 0) = false := decide_eq_false (by omega)
        have hn9 : n9 = n := by rw [HN9.out, if_neg hi0]
        go_wp2_with fail
        go_meet
        exact ⟨by rw [hn9], Below.refl _ _⟩
    obtain ⟨rfl, hb10⟩ := hcut
    have hz7 := hb7.size
    have hB9 : Below w.heap.size w w9 := hB6.trans hb9
    have hz9 := hB9.size
    have hB10 : Below w.heap.size w wc := hB9.trans (hb10.mono hz9)
    have hown10 := hown9.belowB hb10
    by_cases hbig : 32768 < n9
    · have hRf : R = ([], false, 0) := by rw [HR4.out, if_pos hbig]
      have HRf := Lib.hid hRf
      have z0 : decide (32768 < (n9 : Int)) = true := decide_eq_true (by omega)
      have z1 : decide (32768 < n9) = true := decide_eq_true hbig
      clear hRf hbig
      go_wp2
      go_ret3
      rw [HRf.out]
      exact ⟨⟨_, rfl, RSl.nil_ _ _ _⟩, hB10⟩
    have hRf : R = nextF d l.end_ ring t (ring - l.used - (i + 1)) (i + 1) acc9 n9 := by rw [HR4.out, if_neg hbig, HK2.out]
    have HRf := Lib.hid hRf
    have z0 : decide (32768 < (n9 : Int)) = false := decide_eq_false (by omega)
    have z1 : decide (32768 < n9) = false := decide_eq_false hbig
    have hn9 : n9 ≤ 32768 := by omega
    have hi9 : i + 1 ≤ ring := by omega
    clear hRf hbig
    go_wp2
    go_roundw
    case rel => exact ⟨i + 1, n9, acc9, _, _, rfl, rfl, by go_num, hown10, hB10, hi9, hn9, HRf⟩
    case measure => simp [intOf]; omega
end Go.Proofs.YtnlhjhpikjmoaaaGreatDoor
