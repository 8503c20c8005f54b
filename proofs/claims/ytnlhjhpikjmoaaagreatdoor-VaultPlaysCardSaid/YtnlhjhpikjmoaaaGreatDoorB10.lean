/- Contracts: code.Num, code.Text, vault.nums.
Contracts: vault.things (where the snapshots are alike). -/
import Derived.Test.YtnlhjhpikjmoaaaGreatDoorA9
import Derived.Test.YtnlhjhpikjmoaaaGreatDoorS0
import Derived.Test.YtnlhjhpikjmoaaaGreatDoorB9
import Derived.Test.YtnlhjhpikjmoaaaGreatDoorB21
import Derived.Test.YtnlhjhpikjmoaaaGreatDoorB5
import Derived.Test.YtnlhjhpikjmoaaaGreatDoorW29
import Derived.Deep.DeepCutAuto
import Derived.Deep.CutBlock
namespace Go.Proofs.YtnlhjhpikjmoaaaGreatDoor
open Go.RowKit
set_option maxRecDepth 100000 in
set_option maxHeartbeats 1600000 in
theorem num_any (v : Nat) (hv : v < 18446744073709551616) (w : World) :
    Calls Tryz.prog 106 #[.int .u64 (v : Int)] w fun e w' => (∃ A c, e = .returned (.slice A (numB v).length c) ∧ OwnB w.heap.size w' A (numB v).length c (numB v)) ∧ Below w.heap.size w w' := by
  go_enter Tryz.func106, Tryz.ntmps106
  go_wp2
  go_loopw [0, 3] (fun vv vb wr => ∃ (x f m c : Nat) (A : Option Addr) (bs : List UInt8), vv = .int .u64 (x : Int) ∧ vb = .slice A m c ∧ OwnB w.heap.size wr A m c bs ∧ Below w.heap.size w wr ∧ Hid (bs ++ numF f x = numB v ∧ m + f = 9 ∧ x * 128 ^ m ≤ v)) (fun vv _ _ => (intOf vv).toNat)
  case atStart => exact ⟨v, 9, 0, 0, none, [], rfl, rfl, OwnB.nil_ _ _, Below.refl _ _, Lib.hid ⟨rfl, rfl, by omega⟩⟩
  case round =>
    obtain ⟨x, f, m, c, A, bs, rfl, rfl, hown, hb, HP⟩ := hrel
    by_cases h128 : 128 ≤ x
    · have y1 : decide ((x : Int) ≥ 128) = true := decide_eq_true (by omega)
      have y2 : decide (128 ≤ x) = true := decide_eq_true h128
      have hm9 : m < 9 := by
        obtain ⟨_, h2, h3⟩ := HP.out
        rcases Nat.lt_or_ge m 9 with h | h
        · exact h
        · exfalso
          have : 128 * 128 ^ 9 ≤ x * 128 ^ m := Nat.mul_le_mul h128 (Nat.pow_le_pow_right (by omega) h)
          omega
      have HX := Lib.hid (num_byte x)
      go_wp2_with (at_builtin; refine wp_append_byte rfl (.tmp 8) _ rfl w.heap.size A m c bs wr _ (UInt8.ofNat (x % 128 + 128)) HX.out rfl hown rfl (by omega) hb.size ?_; intro A2 c2 w2 hown2 hb2)
      go_roundw
      case rel =>
        obtain ⟨h1, h2, h3⟩ := HP.out
        refine ⟨x / 128, f - 1, m + 1, c2, A2, _, by go_num, rfl, hown2, hb.trans hb2, Lib.hid ⟨?_, by omega, ?_⟩⟩
        · rw [← h1, List.append_assoc, show f = (f - 1) + 1 by omega, numF_big h128]
          simp
        · rw [Nat.pow_succ, Nat.mul_comm (128 ^ m) 128, ← Nat.mul_assoc]
          exact Nat.le_trans (Nat.mul_le_mul_right _ (Nat.div_mul_le_self x 128)) h3
      case measure => simp [intOf]; omega
    · have y1 : decide ((x : Int) ≥ 128) = false := decide_eq_false (by omega)
      have y2 : decide (128 ≤ x) = false := decide_eq_false h128
      have HX := Lib.hid (last_byte (v := x) (by omega))
      have HX2 := Lib.hid (show (x : Int) = ((UInt8.ofNat x).toNat : Int) by simp only [UInt8.toNat_ofNat']; omega)
      have hm9 : m ≤ 9 := by have := HP.out.2.1; omega
      go_wp2_with (at_builtin; refine wp_append_byte rfl (.tmp 14) _ rfl w.heap.size A m c bs wr _ (UInt8.ofNat x) (by first | exact HX.out | exact HX2.out) rfl hown rfl (by omega) hb.size ?_; intro A2 c2 w2 hown2 hb2)
      go_ret
      have hl : bs ++ [UInt8.ofNat x] = numB v := by rw [← HP.out.1, numF_little (by omega)]
      rw [hl] at hown2
      have hlen := hown2.len
      rw [hlen]
      exact ⟨⟨A2, c2, rfl, hown2⟩, hb.trans hb2⟩
set_option maxRecDepth 100000 in
set_option maxHeartbeats 1600000 in
theorem text_any {ok : Nat → Prop} (u : Value) (b : List UInt8) (w : World) (hb : RB ok w u b) (hl : b.length ≤ 140737488350000) :
    Calls Tryz.prog 99 #[u] w fun e w' => (∃ A c, e = .returned (.slice A (txtB b).length c) ∧ OwnB w.heap.size w' A (txtB b).length c (txtB b)) ∧ Below w.heap.size w w' := by
  obtain ⟨A, c, rfl, hc, hm, hrd, _⟩ := hb.open_
  have HRD := Lib.hid hrd
  have HNUM := Lib.hid (num_any b.length (by omega))
  have HE := Lib.hid (show txtB b = numB b.length ++ b from rfl)
  obtain ⟨m, hmm⟩ : ∃ m, m = b.length := ⟨_, rfl⟩
  rw [← hmm] at HRD HNUM HE hc hl hm ⊢
  obtain ⟨q, hq⟩ : ∃ q, q = (numB m).length := ⟨_, rfl⟩
  have hq10 : q ≤ 10 := by rw [hq]; exact numB_len m
  rw [← hq] at HNUM
  have HMM := Lib.hid hmm
  clear hrd hb hmm hq
  go_enter Tryz.func99, Tryz.ntmps99
  go_wp2_with fail
  refine (HNUM.out w).mono ?_
  rintro e w1 ⟨⟨A1, c1, rfl, hown⟩, hb1⟩
  go_wp2_with (at_builtin; refine wp_append_bytes rfl _ _ rfl w.heap.size A1 q c1 (numB m) w1 rfl hown A m c b rfl (HRD.out.below hb1) (by omega) hb1.size ?_; intro A2 c2 w2 hown2 hb2)
  go_ret
  rw [← HE.out] at hown2
  have hlen := hown2.len
  rw [hlen]
  exact ⟨⟨A2, c2, rfl, hown2⟩, hb1.trans hb2⟩
def rU64 : Rel Nat where
  sz := 1
  wt := 8
  rel _ _ cs k := cs = [.int .u64 (k : Int)] ∧ k < 18446744073709551616
  len := by rintro ok w cs d ⟨rfl, _⟩; rfl
  one := by
    rintro ok w cs d ⟨rfl, _⟩ u hu
    rw [List.mem_singleton.1 hu]
    rfl
  kp := fun _ h => h
  mono := fun _ h => h
theorem numsB_take (l : List Nat) {i : Nat} (h : i < l.length) : numsB (l.take (i + 1)) = numsB (l.take i) ++ numB l[i] := by
  unfold numsB
  rw [List.take_succ_eq_append_getElem h, List.map_append, List.flatten_append]
  simp
theorem numsB_len (l : List Nat) : (numsB l).length ≤ 10 * l.length := by
  induction l with
  | nil => simp [numsB]
  | cons a r ih =>
    have h1 : numsB (a :: r) = numB a ++ numsB r := by simp [numsB]
    have := numB_len a
    rw [h1, List.length_append, List.length_cons]
    omega
set_option maxRecDepth 100000 in
set_option maxHeartbeats 1600000 in
theorem nums_any {ok : Nat → Prop} (u : Value) (l : List Nat) (w : World) (hr : RSl rU64 ok w u l) (hl : l.length ≤ 1000) :
    Calls Tryz.prog 96 #[u] w fun e w' => (∃ A c, e = .returned (.slice A (numsB l).length c) ∧ OwnB w.heap.size w' A (numsB l).length c (numsB l)) ∧ Below w.heap.size w w' := by
  obtain ⟨A, c, rfl, hc, hsl⟩ := hr.form
  obtain ⟨n, hn⟩ : ∃ n, n = l.length := ⟨_, rfl⟩
  rw [← hn] at hr hc hl hsl ⊢
  have HR := Lib.hid hr
  have HN := Lib.hid hn
  clear hr hn hsl
  go_enter Tryz.func96, Tryz.ntmps96
  go_upto_region 3 with fail
  go_loopw [3, 8] (fun vb vi wr => ∃ (i m c2 : Nat) (A2 : Option Addr), i ≤ n ∧ vi = .int .i64 (i : Int) ∧ vb = .slice A2 m c2 ∧ m ≤ 10 * i ∧ OwnB w.heap.size wr A2 m c2 (numsB (l.take i)) ∧ Below w.heap.size w wr) (fun _ vi _ => n - (intOf vi).toNat)
  case atStart => exact ⟨0, 0, 0, none, by omega, rfl, rfl, by omega, OwnB.nil_ _ _, Below.refl _ _⟩
  case round =>
    obtain ⟨i, m, c2, A2, hi, rfl, rfl, hm, hown, hb⟩ := hrel
    by_cases hlt : i < n
    · have hil : i < l.length := by rw [← HN.out]; exact hlt
      obtain ⟨b5, off5, c5, cs5, hv5, _, ⟨rfl, h64⟩, hcell5⟩ := (HR.out.below hb).at_ hil
      rw [← HN.out] at hv5
      obtain ⟨rfl, rfl⟩ : A = some ⟨b5, off5, none⟩ ∧ c = c5 := by simpa using hv5
      obtain ⟨x, hx⟩ : ∃ x, x = l[i] := ⟨_, rfl⟩
      rw [← hx] at hcell5 h64
      have q5 : wr.cell? ⟨b5, off5 + i * 1, none⟩ = some (.int .u64 (x : Int)) := hcell5 0 _ rfl
      have q6 : wr.cell? ⟨b5, off5 + i, none⟩ = some (.int .u64 (x : Int)) := by simpa using q5
      have HNUM := Lib.hid (num_any x h64)
      have HX := Lib.hid hx
      have hq10 := numB_len x
      obtain ⟨q, hq⟩ : ∃ q, q = (numB x).length := ⟨_, rfl⟩
      rw [← hq] at HNUM hq10
      clear hcell5 hv5 hx h64 hq
      go_wp2_with fail
      refine (HNUM.out wr).mono ?_
      rintro e w1 ⟨⟨A1, c1, rfl, hown1⟩, hb1⟩
      have HO1 := Lib.hid hown1.rd
      go_wp2_with (at_builtin; refine wp_append_bytes rfl _ _ rfl w.heap.size A2 m c2 (numsB (l.take i)) w1 rfl (hown.belowB hb1) A1 q c1 (numB x) rfl HO1.out (by omega) (Nat.le_trans hb.size hb1.size) ?_; intro A3 c3 w3 hown3 hb3)
      go_roundw
      case rel =>
        refine ⟨i + 1, m + q, c3, A3, by omega, by go_num, rfl, by omega, ?_, (hb.trans (hb1.mono hb.size)).trans hb3⟩
        rw [numsB_take l hil, ← HX.out]
        exact hown3
      case measure => simp [intOf]; omega
    · obtain rfl : i = n := by omega
      go_wp2
      go_ret
      rw [List.take_of_length_le (by rw [← HN.out]; omega)] at hown
      have hlen := hown.len
      rw [hlen]
      exact ⟨⟨A2, c2, rfl, hown⟩, hb⟩
end Go.Proofs.YtnlhjhpikjmoaaaGreatDoor
namespace Go.Proofs.YtnlhjhpikjmoaaaGreatDoor
open Go.RowKit
theorem rsl_nums (w : World) (T : TypeId) (l : List Nat) (hl : ∀ x ∈ l, x < 18446744073709551616) (hn : l.length ≤ 1000) : RSl rU64 (fun b => w.heap.size ≤ b) (w.alloc (.cells (l.map fun x : Nat => Value.int .u64 (x : Int)).toArray T)) (.slice (some ⟨w.heap.size, 0, none⟩) l.length l.length) l := by
  have hch : ∀ q : List Nat, (∀ x ∈ q, x < 18446744073709551616) → Chunks rU64 (fun b => w.heap.size ≤ b) (w.alloc (.cells (l.map fun x : Nat => Value.int .u64 (x : Int)).toArray T)) (q.map fun x : Nat => [Value.int .u64 (x : Int)]) q := by
    intro q
    induction q with
    | nil => intro _; trivial
    | cons a r ih => exact fun h => ⟨⟨rfl, h a (by simp)⟩, ih fun x hx => h x (by simp [hx])⟩
  have hfl : (l.map fun x : Nat => [Value.int .u64 (x : Int)]).flatten = l.map fun x : Nat => Value.int .u64 (x : Int) := by
    generalize l = q
    induction q with
    | nil => rfl
    | cons a r ih => simpa using ih
  refine ⟨some ⟨w.heap.size, 0, none⟩, l.length, l.length, l.map fun x : Nat => [Value.int .u64 (x : Int)], rfl, Nat.le_refl _, rfl, by show l.length * 8 ≤ _; omega, ?_, hch l hl, fun _ a ha => by cases ha; exact Nat.le_refl _⟩
  rw [hfl]
  show Rd _ 1 _ _ _
  have := Rd.new w T 1 l.length (l.map fun x : Nat => Value.int .u64 (x : Int)).toArray (by simp)
  simpa using this
theorem own_lit1 {base : Nat} (w : World) (v : Value) (r : List UInt8) (hv : RB (fun b => base ≤ b ∧ b < w.heap.size) w v r) (hb : base ≤ w.heap.size) : OwnL rBs (fun b => base ≤ b) base 25 (w.alloc (.cells #[v] 25)) (.slice (some ⟨w.heap.size, 0, none⟩) 1 1) [r] := by
  refine ⟨[[v]], World.ownsRow_lit w #[v] 1 hb (by decide) rfl, ⟨⟨v, rfl, ?_⟩, trivial⟩⟩
  refine (RSl.below hv ((Below.refl _ _).alloc (Nat.le_refl _) _)).mono (by decide) fun b hb _ => ⟨hb.1, fun h => ?_⟩
  have : b = w.heap.size := Option.some.inj h
  omega
set_option maxRecDepth 100000 in
set_option maxHeartbeats 1600000 in
theorem equalSl_any {ok ok2 : Nat → Prop} (u v : Value) (l p : List UInt8) (w : World) (h1 : RB ok w u l) (h2 : RB ok2 w v p) :
    Calls Tryz.prog 97 #[u, v] w fun e w' => e = .returned (.bool (decide (l = p))) ∧ Below w.heap.size w w' := by
  obtain ⟨A, c, rfl, hc, hm, r1, _⟩ := h1.open_
  obtain ⟨A2, c2, rfl, hc2, hm2, r2, _⟩ := h2.open_
  obtain ⟨n, hn⟩ : ∃ n, n = l.length := ⟨_, rfl⟩
  obtain ⟨n2, hn2⟩ : ∃ n, n = p.length := ⟨_, rfl⟩
  rw [← hn] at r1 hc hm ⊢
  rw [← hn2] at r2 hc2 hm2 ⊢
  have HN := Lib.hid hn
  have HN2 := Lib.hid hn2
  have R1 := Lib.hid r1
  have R2 := Lib.hid r2
  clear hn hn2 r1 r2 h1 h2
  by_cases hne : n = n2
  · subst hne
    go_enter Tryz.func97, Tryz.ntmps97
    go_upto_region 4 with fail
    go_loopw [13] (fun j wr => ∃ k : Nat, k ≤ n ∧ j = .int .i64 (k : Int) ∧ Below w.heap.size w wr ∧ Hid (l.take k = p.take k)) (fun j _ => n - (intOf j).toNat)
    case atStart => exact ⟨0, by omega, rfl, Below.refl _ _, Lib.hid rfl⟩
    case round =>
      obtain ⟨k, hk, rfl, hb, HA⟩ := hrel
      by_cases hlt : k < n
      · have hlv : k < l.length := by rw [← HN.out]; exact hlt
        have hlv2 : k < p.length := by rw [← HN2.out]; exact hlt
        obtain ⟨b9, off9, hA9, hlb9, g9⟩ := (R1.out.below hb).byteB hlv
        obtain ⟨b8, off8, hA8, hlb8, g8⟩ := (R2.out.below hb).byteB hlv2
        subst hA9 hA8
        obtain ⟨x, hx⟩ : ∃ x, x = l[k] := ⟨_, rfl⟩
        obtain ⟨y, hy⟩ : ∃ y, y = p[k] := ⟨_, rfl⟩
        rw [← hx] at g9
        rw [← hy] at g8
        have q9 : ∀ s : Later wr, s.val.cell? ⟨b9, off9 + k, none⟩ = some (.int .u8 (x.toNat : Int)) := Later.cell g9
        have q8 : ∀ s : Later wr, s.val.cell? ⟨b8, off8 + k, none⟩ = some (.int .u8 (y.toNat : Int)) := Later.cell g8
        have HX := Lib.hid hx
        have HY := Lib.hid hy
        clear g9 g8 hx hy
        go_upto_region 6 with fail
        refine wp_seqL [] (by as_aux_lemma => kernel_rfl) (by as_aux_lemma => kernel_rfl) fun w2 hb2 => ?_
        refine seqL_pre 9 (by kernel_rfl) ?_
        simp only [List.take_succ_cons, List.take_zero, List.drop_succ_cons, List.drop_zero]
        repeat (go_big_quiet_step (fail))
        refine wpQuiet_nil ?_
        refine seqL_nil ?_
        have hbz := hb.trans (hb2.mono hb.size)
        by_cases hxy : x = y
        · have z1 : (((x.toNat : Nat) : Int) != ((y.toNat : Nat) : Int)) = false := by rw [hxy]; exact bne_self_eq_false _
          have HF := Lib.hid (show l.take (k + 1) = p.take (k + 1) by
            rw [List.take_succ_eq_append_getElem hlv, List.take_succ_eq_append_getElem hlv2, HA.out, ← HX.out, ← HY.out, hxy])
          clear hxy HA q9 q8
          go_wp2
          go_roundw
          case rel => exact ⟨k + 1, by omega, by go_num, hbz, HF⟩
          case measure => simp [intOf]; omega
        · have z1 : (((x.toNat : Nat) : Int) != ((y.toNat : Nat) : Int)) = true := by
            rw [bne_iff_ne]
            intro h
            exact hxy (UInt8.toNat_inj.1 (by omega))
          have HF := Lib.hid (show decide (l = p) = false by
            rw [decide_eq_false_iff_not]
            intro h
            subst h
            exact hxy (HX.out.trans HY.out.symm))
          clear hxy HA q9 q8
          go_wp2
          go_ret
          exact ⟨by rw [HF.out]; rfl, hbz⟩
      · obtain rfl : k = n := by omega
        have HF := Lib.hid (show decide (l = p) = true by
          rw [decide_eq_true_iff]
          have := HA.out
          rwa [List.take_of_length_le (by rw [← HN.out]; omega), List.take_of_length_le (by rw [← HN2.out]; omega)] at this)
        go_wp2
        go_ret
        exact ⟨by rw [HF.out]; rfl, hb⟩
  · have ht : ((n : Int) != n2) = true := by rw [bne_iff_ne]; omega
    have HF := Lib.hid (show decide (l = p) = false by
      rw [decide_eq_false_iff_not]
      intro h
      rw [HN.out, HN2.out, h] at hne
      exact hne rfl)
    go_enter Tryz.func97, Tryz.ntmps97
    go_wp2
    go_ret
    exact ⟨by rw [HF.out]; rfl, Below.refl _ _⟩
theorem nums1_any (a : Nat) (ha : a < 18446744073709551616) (w : World) : Calls Tryz.prog 96 #[.slice (some ⟨w.heap.size, 0, none⟩) 1 1] (w.alloc (.cells #[.int .u64 (a : Int)] 22)) fun e w' => (∃ v, e = .returned v ∧ RB (fun b => w.heap.size ≤ b ∧ b < w'.heap.size) w' v (numsB [a])) ∧ Below w.heap.size w w' := by
  refine (nums_any _ [a] _ (rsl_nums w 22 [a] (by simpa using ha) (by simp)) (by simp)).mono ?_
  rintro e w' ⟨⟨A, c, rfl, ho⟩, hb⟩
  have hz : (w.alloc (.cells #[.int .u64 (a : Int)] 22)).heap.size = w.heap.size + 1 := by simp
  have hl := numsB_len [a]
  exact ⟨⟨_, rfl, (ho.rb (by simp at hl; omega)).mono (by decide) fun b hb hlt => ⟨by have : (w.alloc (.cells #[.int .u64 (a : Int)] 22)).heap.size ≤ b := hb; omega, hlt⟩⟩, ((Below.refl _ _).alloc (Nat.le_refl _) _).trans (hb.mono (by show w.heap.size ≤ (w.alloc (.cells #[.int .u64 (a : Int)] 22)).heap.size; omega))⟩
theorem nums2_any (a b : Nat) (ha : a < 18446744073709551616) (hb : b < 18446744073709551616) (w : World) : Calls Tryz.prog 96 #[.slice (some ⟨w.heap.size, 0, none⟩) 2 2] (w.alloc (.cells #[.int .u64 (a : Int), .int .u64 (b : Int)] 22)) fun e w' => (∃ v, e = .returned v ∧ RB (fun b => w.heap.size ≤ b ∧ b < w'.heap.size) w' v (numsB [a, b])) ∧ Below w.heap.size w w' := by
  refine (nums_any _ [a, b] _ (rsl_nums w 22 [a, b] (by simp [ha, hb]) (by simp)) (by simp)).mono ?_
  rintro e w' ⟨⟨A, c, rfl, ho⟩, hB⟩
  have hz : (w.alloc (.cells #[.int .u64 (a : Int), .int .u64 (b : Int)] 22)).heap.size = w.heap.size + 1 := by simp
  have hl := numsB_len [a, b]
  exact ⟨⟨_, rfl, (ho.rb (by simp at hl; omega)).mono (by decide) fun x hx hlt => ⟨by have : (w.alloc (.cells #[.int .u64 (a : Int), .int .u64 (b : Int)] 22)).heap.size ≤ x := hx; omega, hlt⟩⟩, ((Below.refl _ _).alloc (Nat.le_refl _) _).trans (hB.mono (by show w.heap.size ≤ (w.alloc (.cells #[.int .u64 (a : Int), .int .u64 (b : Int)] 22)).heap.size; omega))⟩
theorem nums3_any (a b c : Nat) (ha : a < 18446744073709551616) (hb : b < 18446744073709551616) (hc : c < 18446744073709551616) (w : World) : Calls Tryz.prog 96 #[.slice (some ⟨w.heap.size, 0, none⟩) 3 3] (w.alloc (.cells #[.int .u64 (a : Int), .int .u64 (b : Int), .int .u64 (c : Int)] 22)) fun e w' => (∃ v, e = .returned v ∧ RB (fun b => w.heap.size ≤ b ∧ b < w'.heap.size) w' v (numsB [a, b, c])) ∧ Below w.heap.size w w' := by
  refine (nums_any _ [a, b, c] _ (rsl_nums w 22 [a, b, c] (by simp [ha, hb, hc]) (by simp)) (by simp)).mono ?_
  rintro e w' ⟨⟨A, q, rfl, ho⟩, hB⟩
  have hz : (w.alloc (.cells #[.int .u64 (a : Int), .int .u64 (b : Int), .int .u64 (c : Int)] 22)).heap.size = w.heap.size + 1 := by simp
  have hl := numsB_len [a, b, c]
  exact ⟨⟨_, rfl, (ho.rb (by simp at hl; omega)).mono (by decide) fun x hx hlt => ⟨by have : (w.alloc (.cells #[.int .u64 (a : Int), .int .u64 (b : Int), .int .u64 (c : Int)] 22)).heap.size ≤ x := hx; omega, hlt⟩⟩, ((Below.refl _ _).alloc (Nat.le_refl _) _).trans (hB.mono (by show w.heap.size ≤ (w.alloc (.cells #[.int .u64 (a : Int), .int .u64 (b : Int), .int .u64 (c : Int)] 22)).heap.size; omega))⟩
def hardB (f t : VLog) : List (List UInt8) := if f.term = t.term ∧ f.vote = t.vote then [] else [encT (.hard t.term t.vote.toNat)]
def entB (e : VEnt) : List UInt8 := encT (.ent e.term e.data)
def snapB (f t : VLog) : List (List UInt8) := if f.si = t.si ∧ f.st = t.st ∧ f.sd = t.sd then [] else [numsB [4, t.si, t.st] ++ txtB t.sd]
theorem things_map {f t f2 : VLog} (kd : Nat) (hk : kd = 1 ∨ kd = 2) (hf2 : f2 = if f.si = t.si ∧ f.st = t.st ∧ f.sd = t.sd then f else changeV f t.si t.st t.sd) : (thingsV f t (if kd = 1 then .beg else .fol)).map encT = (((([numsB [kd]] ++ hardB f t) ++ snapB f t) ++ (backT f2.es (comN f2.es t.es)).map encT) ++ (t.es.drop (comN f2.es t.es)).map entB) ++ [numsB [7]] := by
  unfold thingsV hardB snapB
  simp only [← hf2]
  have h1 : encT (if kd = 1 then .beg else .fol) = numsB [kd] := by
    rcases hk with rfl | rfl
    · simp [encT, numsB]
    · simp [encT, numsB]
  have h2 : encT .fin = numsB [7] := by simp [encT, numsB]
  have h3 : ∀ l : List VEnt, (l.map fun e => Th.ent e.term e.data).map encT = l.map entB := fun l => by simp [List.map_map, Function.comp_def, entB]
  have h4 : encT (.snap t.si t.st t.sd) = numsB [4, t.si, t.st] ++ txtB t.sd := by simp [encT, numsB]
  by_cases hh : f.term = t.term ∧ f.vote = t.vote <;> by_cases hs : f.si = t.si ∧ f.st = t.st ∧ f.sd = t.sd
  · rw [if_pos hh, if_pos hh, if_pos hs, if_pos hs]
    simp only [List.map_append, List.map_cons, List.map_nil, h1, h2, h3, List.append_assoc, List.nil_append, List.append_nil]
  · rw [if_pos hh, if_pos hh, if_neg hs, if_neg hs]
    simp only [List.map_append, List.map_cons, List.map_nil, h1, h2, h3, h4, List.append_assoc, List.nil_append, List.append_nil]
  · rw [if_neg hh, if_neg hh, if_pos hs, if_pos hs]
    simp only [List.map_append, List.map_cons, List.map_nil, h1, h2, h3, List.append_assoc, List.nil_append, List.append_nil]
  · rw [if_neg hh, if_neg hh, if_neg hs, if_neg hs]
    simp only [List.map_append, List.map_cons, List.map_nil, h1, h2, h3, h4, List.append_assoc, List.nil_append, List.append_nil]
set_option maxRecDepth 100000 in
set_option maxHeartbeats 6400000 in
theorem things_any {ok : Nat → Prop} {w : World} {vsd ves usd ues : Value} {f t : VLog} (h1 : VLm ok w vsd ves f) (h2 : VLm ok w usd ues t) (kd : Nat) (hk : kd = 1 ∨ kd = 2) (hsi : t.si ≤ 4611686018427387904) (hsd : t.sd.length ≤ 1000000) (hv : 0 ≤ t.vote) (hn1 : f.es.length ≤ 1000000) (hn2 : t.es.length ≤ 1000000) (hd : ∀ e ∈ t.es, e.data.length ≤ 1000000) :
    Calls Tryz.prog 71 #[.agg (vlCs f vsd ves), .agg (vlCs t usd ues), .int .u64 (kd : Int)] w fun e w' => (∃ v, e = .returned v ∧ RSl rBs (fun b => w.heap.size ≤ b) w' v ((thingsV f t (if kd = 1 then .beg else .fol)).map encT)) ∧ Below w.heap.size w w' := by
  obtain ⟨K0, hK0⟩ : ∃ K0, K0 = (if kd = 1 then Th.beg else Th.fol) := ⟨_, rfl⟩
  rw [← hK0]
  have HK0 := Lib.hid hK0
  clear hK0
  have h1 := h1.mono (ok' := fun b => b < w.heap.size) fun b _ hb => hb
  have h2 := h2.mono (ok' := fun b => b < w.heap.size) fun b _ hb => hb
  obtain ⟨As, cs, rfl, _, _⟩ := h1.sd.form
  obtain ⟨Ae, ce, rfl, hce, _⟩ := h1.es.form
  obtain ⟨Bs, ds, rfl, _, _⟩ := h2.sd.form
  obtain ⟨Be, de, rfl, hde, _⟩ := h2.es.form
  obtain ⟨ns, hns⟩ : ∃ n, n = f.sd.length := ⟨_, rfl⟩
  obtain ⟨ne, hne⟩ : ∃ n, n = f.es.length := ⟨_, rfl⟩
  obtain ⟨ms, hms⟩ : ∃ n, n = t.sd.length := ⟨_, rfl⟩
  obtain ⟨me, hme⟩ : ∃ n, n = t.es.length := ⟨_, rfl⟩
  rw [← hns, ← hne] at h1 ⊢
  rw [← hms, ← hme] at h2 ⊢
  rw [← hne] at hce hn1
  rw [← hme] at hde hn2
  have H1 := Lib.hid h1
  have H2 := Lib.hid h2
  have HNS := Lib.hid hns
  have HNE := Lib.hid hne
  have HMS := Lib.hid hms
  have HME := Lib.hid hme
  have HSI := Lib.hid hsi
  have HSD := Lib.hid hsd
  have HST := Lib.hid h2.st
  have HN1 := Lib.hid (And.intro hn1 hce)
  have HD := Lib.hid hd
  have htt : t.term < 18446744073709551616 := h2.term
  have HTT := Lib.hid htt
  obtain ⟨tv, htv⟩ : ∃ tv : Nat, t.vote = (tv : Int) := ⟨t.vote.toNat, by omega⟩
  have htv5 : tv < 9223372036854775808 := by have := h2.vote.2; omega
  have HTV := Lib.hid htv
  have HTV5 := Lib.hid htv5
  have HK := Lib.hid hk
  clear h1 h2 hns hne hms hme hsi hsd hd htt hk htv htv5
  unfold vlCs
  go_enter Tryz.func71, Tryz.ntmps71
  go_upto_region 1 with fail
  obtain ⟨g, hg⟩ : ∃ g, g = w.heap.size := ⟨_, rfl⟩
  refine name_world (fun w1 => Blk w1 g 30 #[.int .u64 (f.term : Int), .int .i64 f.vote, .int .u64 (f.si : Int), .int .u64 (f.st : Int), .slice As ns cs, .slice Ae ne ce] ∧ Blk w1 (g + 1) 30 #[.int .u64 (t.term : Int), .int .i64 t.vote, .int .u64 (t.si : Int), .int .u64 (t.st : Int), .slice Bs ms ds, .slice Be me de] ∧ Below g w w1 ∧ w1.heap.size = g + 2) ⟨by rw [hg]; exact (Blk.new _ _ _).alloc _, by rw [hg]; exact Blk.new_ (by simp), by rw [hg]; exact ((Below.refl _ _).alloc (Nat.le_refl _) _).alloc (by simp) _, by rw [hg]; simp⟩ ?_
  rintro w1 ⟨k1, k2, hB1, hz1⟩
  have g1 := (H1.out.below (hg ▸ hB1)).mono (ok' := fun b => b < g) fun b hb _ => by omega
  have g2 := (H2.out.below (hg ▸ hB1)).mono (ok' := fun b => b < g) fun b hb _ => by omega
  rw [← hg]
  have HG := Lib.hid hg
  have HK1 := Lib.hid k1
  have HK2 := Lib.hid k2
  have HZ1 := Lib.hid hz1
  have G1 := Lib.hid g1
  have G2 := Lib.hid g2
  clear k1 k2 g1 g2 H1 H2 hg hz1
  go_wp2_with fail
  refine (nums1_any kd (by have := HK.out; omega) w1).mono ?_
  rintro e w2 ⟨⟨v2, rfl, hv2⟩, hB2⟩
  obtain ⟨A2, c2, rfl, hf2⟩ := hv2.form
  obtain ⟨n2, hn2'⟩ : ∃ n, n = (numsB [kd]).length := ⟨_, rfl⟩
  rw [← hn2'] at hv2 ⊢
  have HV2 := Lib.hid hv2
  clear hv2 hf2 hn2'
  have hz2 := hB2.size
  go_upto_region 2 with fail
  refine name_world (fun w3 => Hid (OwnL rBs (fun b => g + 2 ≤ b) (g + 2) 25 w3 (.slice (some ⟨w2.heap.size, 0, none⟩) 1 1) [numsB [kd]]) ∧ Below (g + 2) w1 w3) ⟨Lib.hid (own_lit1 (base := g + 2) w2 _ _ (HV2.out.mono (by decide) fun b hb hlt => ⟨by have := HZ1.out; omega, hlt⟩) (by have := HZ1.out; omega)), by rw [← HZ1.out]; exact hB2.alloc hz2 _⟩ ?_
  rintro w3 ⟨HO3, hB3⟩
  have k1 := HK1.out.below hB3 (by omega)
  have k2 := HK2.out.below hB3 (by omega)
  have p0 : w3.cell? ⟨g, 0, none⟩ = some (.int .u64 (f.term : Int)) := k1.cell 0
  have p1 : w3.cell? ⟨g, 1, none⟩ = some (.int .i64 f.vote) := k1.cell 1
  have r0 : w3.cell? ⟨g + 1, 0, none⟩ = some (.int .u64 (t.term : Int)) := k2.cell 0
  have r1 : w3.cell? ⟨g + 1, 1, none⟩ = some (.int .i64 (tv : Int)) := by rw [← HTV.out]; exact k2.cell 1
  clear k1 k2
  obtain ⟨hb, hhb⟩ : ∃ hb : Bool, hb = decide (¬ (f.term = t.term ∧ f.vote = tv)) := ⟨_, rfl⟩
  have HHB := Lib.hid hhb
  clear hhb
  go_cut [21] (fun v wx => v = .bool hb ∧ wx = w3)
  case first =>
    by_cases h1 : f.term = t.term
    · have z1 : ((f.term : Int) == (t.term : Int)) = true := by rw [beq_iff_eq]; omega
      by_cases h2 : f.vote = tv
      · have z2 : (f.vote == (tv : Int)) = true := by rw [beq_iff_eq]; exact h2
        have HE := Lib.hid (show hb = false by rw [HHB.out]; simp [h1, h2])
        clear h1 h2
        go_wp2
        go_meet
        exact ⟨by rw [HE.out], rfl⟩
      · have z2 : (f.vote == (tv : Int)) = false := by rw [beq_eq_false_iff_ne]; exact h2
        have HE := Lib.hid (show hb = true by rw [HHB.out]; simp [h2])
        clear h1 h2
        go_wp2
        go_meet
        exact ⟨by rw [HE.out], rfl⟩
    · have z1 : ((f.term : Int) == (t.term : Int)) = false := by rw [beq_eq_false_iff_ne]; omega
      have HE := Lib.hid (show hb = true by rw [HHB.out]; simp [h1])
      clear h1
      go_wp2
      go_meet
      exact ⟨by rw [HE.out], rfl⟩
  obtain ⟨rfl, hwx⟩ := hcut
  rw [hwx]
  clear hwx
  go_upto_if 21 with fail
  go_cut [7] (fun v wx => ∃ (A : Option Addr) (n c : Nat), v = .slice A n c ∧ n ≤ 2 ∧ Hid (OwnL rBs (fun b => g + 2 ≤ b) (g + 2) 25 wx (.slice A n c) ([numsB [kd]] ++ hardB f t)) ∧ Below (g + 2) w1 wx)
  case first =>
    cases hb
    · have HE := Lib.hid (show hardB f t = [] by
        have := HHB.out
        unfold hardB
        rw [if_pos (by rw [HTV.out]; simpa using this.symm)])
      go_wp2
      go_meet
      exact ⟨_, 1, 1, rfl, by omega, by rw [HE.out]; exact HO3, hB3⟩
    · have HE := Lib.hid (show hardB f t = [encT (.hard t.term tv)] by
        have := HHB.out
        unfold hardB
        rw [if_neg (by rw [HTV.out]; exact of_decide_eq_true this.symm), HTV.out]
        rfl)
      have hw : IntKind.u64.wrap (tv : Int) = (tv : Int) := by rw [IntKind.wrap_u64]; have := HTV5.out; omega
      go_wp2_with fail
      refine (nums3_any 3 t.term tv (by omega) HTT.out (by have := HTV5.out; omega) w3).mono ?_
      rintro e w4 ⟨⟨v4, rfl, hv4⟩, hB4⟩
      obtain ⟨A4, c4, rfl, hf4⟩ := hv4.form
      obtain ⟨n4, hn4⟩ : ∃ n, n = (numsB [3, t.term, tv]).length := ⟨_, rfl⟩
      rw [← hn4] at hv4 ⊢
      clear hf4 hn4
      have hz4 := hB4.size
      have hlt3 := HO3.out.lt
      have ho4 := HO3.out.below hB4
      have hz34 : w2.heap.size < w3.heap.size := (hlt3 _ rfl).2
      have hgl : g + 2 ≤ w2.heap.size := (hlt3 _ rfl).1
      have hbo : rBs.rel (fun b => g + 2 ≤ b ∧ some b ≠ (Value.slice (some ⟨w2.heap.size, 0, none⟩) 1 1).ownBlock) w4 [.slice A4 n4 c4] (numsB [3, t.term, tv]) := ⟨_, rfl, hv4.mono (by decide) fun b hb _ => ⟨by omega, fun h => by have : b = w2.heap.size := Option.some.inj h; omega⟩⟩
      clear hv4
      go_wp2_with (at_builtin; go_loud (refine wp_app1 (E := rBs) (okd := fun b => g + 2 ≤ b) Tryz.rowBs (by decide) rfl _ _ rfl (.slice (some ⟨w2.heap.size, 0, none⟩) 1 1) [numsB [kd]] w4 #[.slice A4 n4 c4] (numsB [3, t.term, tv]) rfl ho4 rfl hbo (by show (1 + 1) * 24 ≤ _; omega) (by show 1 + 1 ≤ _; omega) (by omega) ?_); intro v' w5 ho5 hk5 hloc5)
      obtain ⟨A5, c5, rfl, hc5⟩ := ho5.form
      have hB5 : Below (g + 2) w1 w5 := (hB3.trans (hB4.mono (by omega))).trans (hk5.below (by omega) fun b hb h => by have : b = w2.heap.size := Option.some.inj h; omega)
      go_meet
      refine ⟨A5, 2, c5, rfl, by omega, Lib.hid ?_, hB5⟩
      rw [HE.out, show encT (.hard t.term tv) = numsB [3, t.term, tv] by simp [numsB, encT]]
      exact ho5
  obtain ⟨A5, n5, c5, rfl, hn5, HO5, hB5⟩ := hcut
  obtain ⟨w5, rfl⟩ : ∃ w5, w5 = wc := ⟨_, rfl⟩
  clear p0 p1 r0 r1 HO3 hB3 HV2 hz2
  have k1 := HK1.out.below hB5 (by omega)
  have k2 := HK2.out.below hB5 (by omega)
  have p2 : ∀ s : LaterB w5 (fun _ => False), s.val.cell? ⟨g, 2, none⟩ = some (.int .u64 (f.si : Int)) := LaterB.cell (k1.cell 2) (fun h => h)
  have p3 : ∀ s : LaterB w5 (fun _ => False), s.val.cell? ⟨g, 3, none⟩ = some (.int .u64 (f.st : Int)) := LaterB.cell (k1.cell 3) (fun h => h)
  have p4 : ∀ s : LaterB w5 (fun _ => False), s.val.cell? ⟨g, 4, none⟩ = some (.slice As ns cs) := LaterB.cell (k1.cell 4) (fun h => h)
  have r2 : ∀ s : LaterB w5 (fun _ => False), s.val.cell? ⟨g + 1, 2, none⟩ = some (.int .u64 (t.si : Int)) := LaterB.cell (k2.cell 2) (fun h => h)
  have r3 : ∀ s : LaterB w5 (fun _ => False), s.val.cell? ⟨g + 1, 3, none⟩ = some (.int .u64 (t.st : Int)) := LaterB.cell (k2.cell 3) (fun h => h)
  have r4 : ∀ s : LaterB w5 (fun _ => False), s.val.cell? ⟨g + 1, 4, none⟩ = some (.slice Bs ms ds) := LaterB.cell (k2.cell 4) (fun h => h)
  go_upto_region 4 with fail
  refine wp_seqV (fun _ => False) 6 [6, 7] [4, 5] (by as_aux_lemma => kernel_rfl) (by as_aux_lemma => kernel_rfl) fun w6 hb6 => ?_
  refine seqV_pre 4 (by kernel_rfl) ?_
  simp only [List.take_succ_cons, List.take_zero, List.drop_succ_cons, List.drop_zero]
  repeat (go_big_quiet_step (fail))
  refine wpQuiet_nil ?_
  refine seqV_lay (fun g => .pointer (some ⟨g, 0, none⟩)) 27 #[.int .u64 0, .int .u64 0, .slice none 0 0] rfl rfl (fun s => by go_simp <;> rfl) fun gx w7 hg7 hM7 k7 hb7 => ?_
  simp only [Act.put, List.setIfInBounds_toArray, List.set_cons_succ, List.set_cons_zero]
  have hbA := hb6.trans (hb7.mono hb6.size)
  refine seqV_lay (fun g => .pointer (some ⟨g, 0, none⟩)) 27 #[.int .u64 0, .int .u64 0, .slice none 0 0] rfl rfl (fun s => by go_simp <;> rfl) fun gy w8 hg8 hM8 k8 hb8 => ?_
  simp only [Act.put, List.setIfInBounds_toArray, List.set_cons_succ, List.set_cons_zero]
  have hbB := hbA.trans (hb8.mono hbA.size)
  have k7' := k7.below hb8 k7.lt
  refine seqV_chg (Kp.ofBelow hbB) rfl rfl fun K hK => ?_
  refine gives_st (k := 0) rfl #[.int .u64 (f.si : Int), .int .u64 (f.st : Int), .slice As ns cs] rfl rfl k7' (Nat.le_refl _) Tryz.infoSnap (snap_all _ _ _ _ _) ?_
  have hne : gy ≠ gx := fun e => hM8 (.inr e)
  have j7 := k7'.setCells #[.int .u64 (f.si : Int), .int .u64 (f.st : Int), .slice As ns cs] rfl
  have hkx : Kp (fun b => ¬ b = gx) w8 (World.setCells w8 gx 0 (#[.int .u64 (f.si : Int), .int .u64 (f.st : Int), .slice As ns cs] : Array Value).toList) := Kp.setCells (b := gx) (fun _ h => h rfl) _ 0 (Kp.refl _ _)
  have j8 := k8.kp hkx hne
  refine hK _ _ ((Kp.setCells (a := w8) (b := gx) (fun _ => keep_not hg7 (.inl (.inr rfl))) (#[.int .u64 (f.si : Int), .int .u64 (f.st : Int), .slice As ns cs] : Array Value).toList 0 (Kp.refl _ _))) fun hK9 => ?_
  clear hK
  clear K
  simp only [Act.put, List.setIfInBounds_toArray, List.set_cons_succ, List.set_cons_zero]
  generalize hwr : World.setCells w8 gx 0 (#[.int .u64 (f.si : Int), .int .u64 (f.st : Int), .slice As ns cs] : Array Value).toList = w9 at j7 j8 hK9 ⊢
  clear hwr hkx
  refine seqV_chg hK9 rfl rfl fun K hK => ?_
  refine gives_st (k := 0) rfl #[.int .u64 (t.si : Int), .int .u64 (t.st : Int), .slice Bs ms ds] rfl rfl j8 (Nat.le_refl _) Tryz.infoSnap (snap_all _ _ _ _ _) ?_
  have i8 := j8.setCells #[.int .u64 (t.si : Int), .int .u64 (t.st : Int), .slice Bs ms ds] rfl
  have hky : Kp (fun b => ¬ b = gy) w9 (World.setCells w9 gy 0 (#[.int .u64 (t.si : Int), .int .u64 (t.st : Int), .slice Bs ms ds] : Array Value).toList) := Kp.setCells (b := gy) (fun _ h => h rfl) _ 0 (Kp.refl _ _)
  have i7 := j7.kp hky (fun e => hne e.symm)
  refine hK _ _ ((Kp.setCells (a := w9) (b := gy) (fun _ => keep_not hg8 (.inl (.inr rfl))) (#[.int .u64 (t.si : Int), .int .u64 (t.st : Int), .slice Bs ms ds] : Array Value).toList 0 (Kp.refl _ _))) fun hK10 => ?_
  clear hK
  clear K
  simp only [Act.put, List.setIfInBounds_toArray, List.set_cons_succ, List.set_cons_zero]
  generalize hwr : World.setCells w9 gy 0 (#[.int .u64 (t.si : Int), .int .u64 (t.st : Int), .slice Bs ms ds] : Array Value).toList = wA at i7 i8 hK10 ⊢
  clear hwr hky
  refine seqV_nil ?_
  have hBA := hK10.toBelow
  have hzA := hBA.size
  have x0 : wA.cell? ⟨gx, 0, none⟩ = some (.int .u64 (f.si : Int)) := i7.cell 0
  have x1 : wA.cell? ⟨gx, 1, none⟩ = some (.int .u64 (f.st : Int)) := i7.cell 1
  have x2 : wA.cell? ⟨gx, 2, none⟩ = some (.slice As ns cs) := i7.cell 2
  have y0 : wA.cell? ⟨gy, 0, none⟩ = some (.int .u64 (t.si : Int)) := i8.cell 0
  have y1 : wA.cell? ⟨gy, 1, none⟩ = some (.int .u64 (t.st : Int)) := i8.cell 1
  have y2 : wA.cell? ⟨gy, 2, none⟩ = some (.slice Bs ms ds) := i8.cell 2
  have hB1A : Below (g + 2) w1 wA := hB5.trans (hBA.mono (by have := hB5.size; have := HZ1.out; omega))
  have HOA := Lib.hid (HO5.out.below hBA)
  have HQ := Lib.hid (equalSl_any _ _ f.sd t.sd wA (RSl.kp (ok := fun b => b < g) (.of_belowB hB1A fun b (h : b < g) _ => by omega) G1.out.sd) (RSl.kp (ok := fun b => b < g) (.of_belowB hB1A fun b (h : b < g) _ => by omega) G2.out.sd))
  have HY := Lib.hid i8
  have hgy : g + 2 ≤ gy := by have := hg8; have := HZ1.out; have := hB5.size; omega
  have HBAD := Lib.hid (show ¬ some gy = (Value.slice A5 n5 c5).ownBlock from fun h => by have := (HO5.out.lt gy h.symm).2; omega)
  obtain ⟨b1, hb1⟩ : ∃ b : Bool, ((f.si : Int) != (t.si : Int)) = b := ⟨_, rfl⟩
  obtain ⟨b2, hb2⟩ : ∃ b : Bool, ((f.st : Int) != (t.st : Int)) = b := ⟨_, rfl⟩
  obtain ⟨b3, hb3⟩ : ∃ b : Bool, decide (f.sd = t.sd) = b := ⟨_, rfl⟩
  rw [hb3] at HQ
  obtain ⟨hs, hhs⟩ : ∃ hs : Bool, hs = (b1 || (b2 || !b3)) := ⟨_, rfl⟩
  have HHS := Lib.hid hhs
  have HAL := Lib.hid (show hs = true ↔ ¬ (f.si = t.si ∧ f.st = t.st ∧ f.sd = t.sd) by
    have e1 : b1 = !decide (f.si = t.si) := by
      rw [← hb1]
      by_cases p : f.si = t.si
      · rw [decide_eq_true p, bne_eq_false_iff_eq.2 (by omega)]; rfl
      · rw [decide_eq_false p, bne_iff_ne.2 (by omega)]; rfl
    have e2 : b2 = !decide (f.st = t.st) := by
      rw [← hb2]
      by_cases p : f.st = t.st
      · rw [decide_eq_true p, bne_eq_false_iff_eq.2 (by omega)]; rfl
      · rw [decide_eq_false p, bne_iff_ne.2 (by omega)]; rfl
    rw [hhs, e1, e2, ← hb3]
    by_cases p : f.si = t.si <;> by_cases q : f.st = t.st <;> by_cases r : f.sd = t.sd <;> simp [p, q, r])
  clear k7 k8 k7' j7 j8 i7 i8 hK9 hK10 hg7 hM7 hg8 hM8 hne hb6 hb7 hb8 hbA hbB p2 p3 p4 r2 r3 r4 k1 k2 HO5 hhs hb3
  go_upto_region 5 with fail
  go_cut [57] (fun v wx => v = .bool hs ∧ Below wA.heap.size wA wx)
  case first =>
    cases b1
    rotate_left
    · go_wp2
      go_meet
      exact ⟨by rw [HHS.out]; rfl, Below.refl _ _⟩
    cases b2
    rotate_left
    · go_wp2
      go_meet
      exact ⟨by rw [HHS.out]; rfl, Below.refl _ _⟩
    go_wp2_with fail
    refine HQ.out.mono ?_
    rintro e wB ⟨rfl, hBB⟩
    go_wp2
    go_meet
    exact ⟨by rw [HHS.out]; rfl, hBB⟩
  obtain ⟨rfl, hBB⟩ := hcut
  obtain ⟨wS, rfl⟩ : ∃ wS, wS = wc := ⟨_, rfl⟩
  have hzB := hBB.size
  have hB1S : Below (g + 2) w1 wS := hB1A.trans (hBB.mono (by have := hB1A.size; have := HZ1.out; omega))
  have HOS := Lib.hid (HOA.out.below hBB)
  have HYS := Lib.hid (HY.out.below hBB HY.out.lt)
  have kS1 := HK1.out.below hB1S (by omega)
  have kS2 := HK2.out.below hB1S (by omega)
  clear x0 x1 x2 y0 y1 y2 HQ HOA HY hb1 hb2
  obtain ⟨f2, hf2⟩ : ∃ f2 : VLog, f2 = if f.si = t.si ∧ f.st = t.st ∧ f.sd = t.sd then f else changeV f t.si t.st t.sd := ⟨_, rfl⟩
  have HF2 := Lib.hid hf2
  obtain ⟨L2, hL2⟩ : ∃ L2, L2 = ([numsB [kd]] ++ hardB f t) ++ snapB f t := ⟨_, rfl⟩
  have HL2 := Lib.hid hL2
  clear hf2 hL2
  have hn5l : ([numsB [kd]] ++ hardB f t).length = n5 := by
    obtain ⟨A', c', hv', _⟩ := HOS.out.form
    have : n5 = ([numsB [kd]] ++ hardB f t).length := by simpa using (show A5 = A' ∧ n5 = _ ∧ c5 = c' by simpa using hv').2.1
    exact this.symm
  have HN5 := Lib.hid hn5l
  clear hn5l
  go_upto_if 57 with fail
  go_cut [7] (fun v wx => ∃ (A : Option Addr) (n c : Nat), v = .slice A n c ∧ n ≤ 3 ∧ Hid (OwnL rBs (fun b => g + 2 ≤ b) (g + 2) 25 wx (.slice A n c) L2) ∧ Hid (∃ (Av : Option Addr) (cv : Nat) (x0 x1 x2 x3 x4 : Value), Blk wx g 30 #[x0, x1, x2, x3, x4, .slice Av f2.es.length cv] ∧ RSl rEnt (fun _ => True) wx (.slice Av f2.es.length cv) f2.es ∧ f2.es.length ≤ 1000000) ∧ Kp (fun b => b < g + 2 ∧ b ≠ g) w1 wx)
  case first =>
    cases hs
    · have hal : f.si = t.si ∧ f.st = t.st ∧ f.sd = t.sd := Decidable.byContradiction fun h => by have := HAL.out.2 h; cases this
      have e1 : f2 = f := by rw [HF2.out, if_pos hal]
      have e2 : L2 = [numsB [kd]] ++ hardB f t := by rw [HL2.out, snapB, if_pos hal, List.append_nil]
      have HE := Lib.hid (And.intro e1 e2)
      clear hal e1 e2
      go_wp2
      go_meet
      refine ⟨A5, n5, c5, rfl, by omega, Lib.hid (by rw [HE.out.2]; exact HOS.out), Lib.hid ?_, .of_belowB hB1S fun b hb _ => by omega⟩
      rw [HE.out.1, ← HNE.out]
      exact ⟨Ae, ce, _, _, _, _, _, kS1, RSl.mono (by decide) (fun _ _ _ => trivial) (RSl.kp (ok := fun b => b < g) (.of_belowB hB1S fun b (h : b < g) _ => by omega) G1.out.es), HN1.out.1⟩
    · have hal : ¬ (f.si = t.si ∧ f.st = t.st ∧ f.sd = t.sd) := HAL.out.1 rfl
      have e1 : f2 = changeV f t.si t.st t.sd := by rw [HF2.out, if_neg hal]
      have e2 : L2 = ([numsB [kd]] ++ hardB f t) ++ [numsB [4, t.si, t.st] ++ txtB t.sd] := by rw [HL2.out, snapB, if_neg hal]
      have HE := Lib.hid (And.intro e1 e2)
      clear hal e1 e2
      have hOlt := HOS.out.lt
      have hbad := HBAD.out
      have y0 : ∀ s : LaterB wS (fun y => some y = (Value.slice A5 n5 c5).ownBlock), s.val.cell? ⟨gy, 0, none⟩ = some (.int .u64 (t.si : Int)) := LaterB.cell (HYS.out.cell 0) hbad
      have y1 : ∀ s : LaterB wS (fun y => some y = (Value.slice A5 n5 c5).ownBlock), s.val.cell? ⟨gy, 1, none⟩ = some (.int .u64 (t.st : Int)) := LaterB.cell (HYS.out.cell 1) hbad
      have y2 : ∀ s : LaterB wS (fun y => some y = (Value.slice A5 n5 c5).ownBlock), s.val.cell? ⟨gy, 2, none⟩ = some (.slice Bs ms ds) := LaterB.cell (HYS.out.cell 2) hbad
      go_upto_region 6 with fail
      refine wp_seqB (fun y => some y = (Value.slice A5 n5 c5).ownBlock) 13 [5, 6, 9, 10, 11, 12, 13] (by as_aux_lemma => kernel_rfl) (by as_aux_lemma => kernel_rfl) fun wF hbF => ?_
      refine seqB_pre 5 (by kernel_rfl) ?_
      simp only [List.take_succ_cons, List.take_zero, List.drop_succ_cons, List.drop_zero]
      repeat (go_big_quiet_step (fail))
      refine wpQuiet_nil ?_
      refine seqB_wild0 hbF rfl rfl fun K hK => ?_
      unfold Gives
      go_simp
      have ha1 : Below wF.heap.size wF (wF.alloc (.cells #[.int .u64 4, .int .u64 (t.si : Int), .int .u64 (t.st : Int)] 22)) := (Below.refl _ _).alloc (Nat.le_refl _) _
      refine hK _ _ ha1 fun hbG => ?_
      clear hK
      clear K
      simp only [Act.put, List.setIfInBounds_toArray, List.set_cons_succ, List.set_cons_zero]
      refine seqB_wild0 hbG rfl rfl fun K hK => ?_
      unfold Gives
      go_simp
      refine (nums_any _ [4, t.si, t.st] _ (rsl_nums wF 22 [4, t.si, t.st] (by intro x hx; simp at hx; rcases hx with rfl | rfl | rfl; omega; (have := HSI.out; omega); exact HST.out) (by simp)) (by simp)).mono ?_
      rintro x wH ⟨⟨AH, cH, rfl, hoH⟩, hbH⟩
      refine ⟨_, rfl, hK _ _ (hbH) fun hbH' => ?_⟩
      clear hK
      clear K
      simp only [Act.put, List.setIfInBounds_toArray, List.set_cons_succ, List.set_cons_zero]
      refine seqB_pre 2 (by kernel_rfl) ?_
      simp only [List.take_succ_cons, List.take_zero, List.drop_succ_cons, List.drop_zero]
      repeat (go_big_quiet_step (fail))
      refine wpQuiet_nil ?_
      refine seqB_wild0 hbH' rfl rfl fun K hK => ?_
      unfold Gives
      go_simp
      refine (text_any _ t.sd wH (RSl.below (RSl.kp (ok := fun b => b < g) (.of_belowB hB1S fun b (h : b < g) _ => by omega) G2.out.sd) hbH') (by have := HSD.out; omega)).mono ?_
      rintro x wI ⟨⟨AI, cI, rfl, hoI⟩, hbI⟩
      refine ⟨_, rfl, hK _ _ (hbI) fun hbI' => ?_⟩
      clear hK
      clear K
      simp only [Act.put, List.setIfInBounds_toArray, List.set_cons_succ, List.set_cons_zero]
      have hl1 := numsB_len [4, t.si, t.st]
      have hl2 : (txtB t.sd).length ≤ 1000010 := by unfold txtB; rw [List.length_append]; have := numB_len t.sd.length; have := HSD.out; omega
      have hu1 := (hoH.rb (by simp at hl1; omega))
      have hu2 := (hoI.rb (by omega))
      obtain ⟨n1, hn1'⟩ : ∃ n, n = (numsB [4, t.si, t.st]).length := ⟨_, rfl⟩
      obtain ⟨n2, hn2'⟩ : ∃ n, n = (txtB t.sd).length := ⟨_, rfl⟩
      rw [← hn1'] at hu1 hl1 ⊢
      rw [← hn2'] at hu2 hl2 ⊢
      have HN1' := Lib.hid hn1'
      have HN2' := Lib.hid hn2'
      clear hn1' hn2' hoH hoI
      refine seqB_wild0 hbI' rfl rfl fun K hK => ?_
      unfold Gives
      go_simp
      have ha2 : Below wI.heap.size wI (wI.alloc (.cells #[.slice AH n1 cH, .slice AI n2 cI] 25)) := (Below.refl _ _).alloc (Nat.le_refl _) _
      have kJ := Blk.new wI 25 #[.slice AH n1 cH, .slice AI n2 cI]
      refine hK _ _ ha2 fun hbJ => ?_
      clear hK
      clear K
      simp only [Act.put, List.setIfInBounds_toArray, List.set_cons_succ, List.set_cons_zero]
      refine seqB_wild0 hbJ rfl rfl fun K hK => ?_
      unfold Gives
      go_simp
      refine (concat_any wI.heap.size _ _ (numsB [4, t.si, t.st]) (txtB t.sd) _ (kJ.cell 0) (kJ.cell 1) (RSl.below (RSl.below hu1 hbI) ha2) (RSl.below hu2 ha2) (by rw [← HN1'.out]; simp at hl1; omega) (by rw [← HN2'.out]; omega)).mono ?_
      rintro x wJ ⟨⟨AJ, cJ, rfl, hoJ⟩, hbK⟩
      refine ⟨_, rfl, hK _ _ (hbK) fun hbK' => ?_⟩
      clear hK
      clear K
      simp only [Act.put, List.setIfInBounds_toArray, List.set_cons_succ, List.set_cons_zero]
      have hll : (numsB [4, t.si, t.st] ++ txtB t.sd).length ≤ 1000050 := by rw [List.length_append, ← HN1'.out, ← HN2'.out]; simp at hl1; omega
      have huJ := hoJ.rb (by omega)
      obtain ⟨nJ, hnJ⟩ : ∃ n, n = (numsB [4, t.si, t.st] ++ txtB t.sd).length := ⟨_, rfl⟩
      rw [← hnJ] at huJ ⊢
      clear hnJ hoJ hll
      refine seqB_wild0 hbK' rfl rfl fun K hK => ?_
      unfold Gives
      go_simp
      have ha3 : Below wJ.heap.size wJ (wJ.alloc (.cells #[.slice AJ nJ cJ] 25)) := (Below.refl _ _).alloc (Nat.le_refl _) _
      refine hK _ _ ha3 fun hbL => ?_
      clear hK
      clear K
      simp only [Act.put, List.setIfInBounds_toArray, List.set_cons_succ, List.set_cons_zero]
      have hzI := hbI'.size
      have hzJ : wI.heap.size < (wI.alloc (.cells #[.slice AH n1 cH, .slice AI n2 cI] 25)).heap.size := by simp
      have hzS := hB1S.size
      have hzz := HZ1.out
      have hvJ : rBs.rel (fun b => g + 2 ≤ b ∧ some b ≠ (Value.slice A5 n5 c5).ownBlock) (wJ.alloc (.cells #[.slice AJ nJ cJ] 25)) [.slice AJ nJ cJ] (numsB [4, t.si, t.st] ++ txtB t.sd) := ⟨_, rfl, (RSl.below huJ ha3).mono (by decide) fun b hb _ => by
        have hb' : (wI.alloc (.cells #[.slice AH n1 cH, .slice AI n2 cI] 25)).heap.size ≤ b := hb
        exact ⟨by omega, fun h => by have := (hOlt b h.symm).2; omega⟩⟩
      have hn5l := HN5.out
      refine seqB_wild (Kp.of_below hbL) rfl rfl fun K hK => ?_
      refine gives_app0' (E := rBs) Tryz.rowBs (by decide) _ _ rfl (.slice A5 n5 c5) ([numsB [kd]] ++ hardB f t) _ rfl (HOS.out.below hbL) (some ⟨wJ.heap.size, 0, none⟩) 1 [numsB [4, t.si, t.st] ++ txtB t.sd] [[.slice AJ nJ cJ]] rfl (show Rd _ 1 _ _ _ by simpa using Rd.new wJ 25 1 1 #[.slice AJ nJ cJ] rfl) (Chunks.single (E := rBs) hvJ) ?_ ?_ (by have := hbL.size; omega) fun v' wM hoM hkM hlocM => ?_
      · rw [hn5l]
        show (n5 + 1) * 24 ≤ _
        omega
      · rw [hn5l]
        show n5 + 1 ≤ _
        omega
      refine hK _ _ ((hkM.mono fun y hy e => hy e)) fun hKM => ?_
      clear hK
      clear K
      simp only [Act.put, List.setIfInBounds_toArray, List.set_cons_succ, List.set_cons_zero]
      refine seqB_pre 1 (by kernel_rfl) ?_
      simp only [List.take_succ_cons, List.take_zero, List.drop_succ_cons, List.drop_zero]
      repeat (go_big_quiet_step (fail))
      refine wpQuiet_nil ?_
      refine seqB_nil ?_
      obtain ⟨AM, cM, rfl, hcM⟩ := hoM.form
      have hlM : (([numsB [kd]] ++ hardB f t) ++ [numsB [4, t.si, t.st] ++ txtB t.sd]).length = n5 + 1 := by rw [List.length_append, hn5l]; rfl
      rw [hlM] at hoM ⊢
      rw [← HE.out.2] at hoM
      have hBM : Below (g + 2) wS wM := hKM.below (by omega) fun b hb h => by have := (hOlt b h.symm).1; omega
      have HOM := Lib.hid hoM
      have kM1 := kS1.kp hKM (fun e => by have := (hOlt _ e.symm).1; omega)
      have kM2 := kS2.kp hKM (fun e => by have := (hOlt _ e.symm).1; omega)
      have kMy := HYS.out.kp hKM hbad
      have hB1M : Below (g + 2) w1 wM := hB1S.trans hBM
      have hvf : VLm (fun b => b < g) wM (.slice As ns cs) (.slice Ae ne ce) f := G1.out.kp (.of_belowB hB1M fun b hb _ => by omega)
      have HCH := Lib.hid (change_any hvf t.si t.st HSI.out (RSl.kp (ok := fun b => b < g) (.of_belowB hB1M fun b (h : b < g) _ => by omega) G2.out.sd) (by rw [← HNE.out]; exact HN1.out.1))
      rw [← HE.out.1] at HCH
      obtain ⟨C1, hC1⟩ : ∃ C1 : Array Value, C1 = vlCs f (.slice As ns cs) (.slice Ae ne ce) := ⟨_, rfl⟩
      have hi1 : (Tryz.prog.info? 30).map (·.size) = some C1.size := by rw [hC1]; exact Tryz.infoLog
      have hs1 : C1.size = 6 := by rw [hC1]; rfl
      rw [← hC1] at HCH
      have kM1 : Blk wM g 30 C1 := by rw [hC1]; exact kM1
      have hzM := hBM.size
      have hOltM := hoM.lt
      clear hoM hkM hlocM hvJ ha3 huJ hKM y0 y1 y2 hcM hlM hvf hC1
      go_upto_region 7 with fail
      refine wp_region_lit ?_
      refine wpList_ld (g := g) (k := 0) (cs := C1) rfl rfl rfl kM1.range Tryz.underlying30 rfl hi1 ?_
      refine wpList_ld (g := gy) (k := 0) (cs := #[.int .u64 (t.si : Int), .int .u64 (t.st : Int), .slice Bs ms ds]) rfl rfl rfl kMy.range Tryz.underlying27 rfl Tryz.infoSnap ?_
      refine wpList_split 1 ?_
      simp only [List.take_succ_cons, List.take_zero, List.drop_succ_cons, List.drop_zero]
      go_wp2_with fail
      refine HCH.out.mono ?_
      rintro e wN ⟨⟨v', rfl, hvN⟩, hBN⟩
      obtain ⟨AN, cN, rfl, hcN⟩ := hvN.form
      have hfl : f2.es.length ≤ ne := by
        rw [HE.out.1, changeV_es]
        have h1 : (f.es.filter fun e => !decide (e.idx ≤ t.si)).length ≤ ne := by rw [HNE.out]; exact List.length_filter_le _ _
        revert h1
        generalize (f.es.filter fun e => !decide (e.idx ≤ t.si)) = Q
        intro h1
        cases Q with
        | nil => simp
        | cons e r =>
          show (if e.idx = t.si + 1 then e :: r else []).length ≤ ne
          split
          · exact h1
          · simp
      have kN1 := kM1.below hBN kM1.lt
      have kN2 := kM2.below hBN kM2.lt
      have hzN := hBN.size
      have HON := Lib.hid (HOM.out.below hBN)
      have HVN := Lib.hid hvN
      have HFL := Lib.hid hfl
      have hltN := hvN.lt
      clear hvN hfl kM1 kM2 kMy HCH
      go_wp2
      show wpList _ _ _ _ _ _
      refine wpList_st rfl rfl (vlCs f2 (.slice Bs ms ds) (.slice AN f2.es.length cN)) rfl rfl kN1 hs1 Tryz.infoLog (vl_all _ _ _ _ _ _ _) ?_ rfl
      intro k9
      have hK9 : Kp (fun b => ¬ b = g) wN (World.setCells wN g 0 (vlCs f2 (.slice Bs ms ds) (.slice AN f2.es.length cN)).toList) := Kp.setCells (b := g) (fun _ h => h rfl) _ 0 (Kp.refl _ _)
      generalize hwz : World.setCells wN g 0 (vlCs f2 (.slice Bs ms ds) (.slice AN f2.es.length cN)).toList = wz at k9 hK9 ⊢
      have HK9 := Lib.hid hK9
      have HB9 := Lib.hid k9
      clear hwz k9 hK9 kN1 kN2
      go_wp2
      go_meet
      have hB1N : Below (g + 2) w1 wN := hB1M.trans (hBN.mono (by omega))
      refine ⟨AM, n5 + 1, cM, rfl, by omega, Lib.hid (HON.out.kp HK9.out (fun b hb e => by omega) fun b hb e => by have := (hOltM b hb).1; omega), Lib.hid ⟨AN, cN, _, _, _, _, _, HB9.out, ?_, by have := HFL.out; have := HN1.out.1; omega⟩, (Kp.of_belowB hB1N fun b hb _ => hb.1).thenW HK9.out fun b _ hb => hb.2⟩
      have := HVN.out.kp HK9.out (fun b hb e => by have := hb.1; omega) fun b hb e => by have := (hltN b hb).1; omega
      exact this.rsl (by decide) (by have := HFL.out; have := HN1.out.1; show f2.es.length * 40 ≤ _; omega) (fun _ _ => trivial) fun _ _ => trivial
  obtain ⟨A5, n5, c5, rfl, hn5, HOB, HGG, hKB⟩ := hcut
  obtain ⟨wB, rfl⟩ : ∃ wB, wB = wc := ⟨_, rfl⟩
  obtain ⟨Ae, ce, X0, X1, X2, X3, X4, hkB, hgB, hn1B⟩ := HGG.out
  obtain ⟨ne, hne⟩ : ∃ ne, ne = f2.es.length := ⟨_, rfl⟩
  rw [← hne] at hkB hgB hn1B
  have HNE := Lib.hid hne
  have HK2 := Lib.hid (HK2.out.kp hKB ⟨by omega, by omega⟩)
  have HK1 := Lib.hid hkB
  have GF2 := Lib.hid hgB
  have G2B := Lib.hid (show RSl rEnt (fun b => b < g) wB (.slice Be me de) t.es from RSl.kp (ok := fun b => b < g) (hKB.mono fun b (hb : b < g) => ⟨by omega, by omega⟩) G2.out.es)
  have hBgB : Below g w wB := hB1.trans (hKB.below (by have := HZ1.out; omega) fun b hb => ⟨by omega, by omega⟩)
  have HZ1 := Lib.hid (show g + 2 ≤ wB.heap.size by have := HZ1.out; have := hKB.size; omega)
  have hB1B : Below (g + 2) wB wB := Below.refl _ _
  clear hkB hgB hne HGG hKB HOS HYS kS1 kS2 hB1 hB1S hBB hB1A hBA HNS

  go_upto_block 0 with fail
  go_cut [10] (fun v wx => v = .int .i64 ((comN f2.es t.es : Nat) : Int) ∧ Below wB.heap.size wB wx)
  case first =>
    go_upto_region 9 with fail
    go_loopw [10] (fun vk wr => ∃ k : Nat, k ≤ ne ∧ k ≤ me ∧ vk = .int .i64 (k : Int) ∧ Below wB.heap.size wB wr ∧ Hid (comN f2.es t.es = k + comN (f2.es.drop k) (t.es.drop k))) (fun vk _ => ne - (intOf vk).toNat)
    case atStart => exact ⟨0, by omega, by omega, rfl, Below.refl _ _, Lib.hid (by simp)⟩
    case round =>
      obtain ⟨k, hk1, hk2, rfl, hb, HP⟩ := hrel
      have hB1r : Below (g + 2) wB wr := hB1B.trans (hb.mono (by have := hB1B.size; have := HZ1.out; omega))
      have kk1 := HK1.out.below hb HK1.out.lt
      have kk2 := HK2.out.below hB1r (by omega)
      have p5 : ∀ s : Later wr, s.val.cell? ⟨g, 5, none⟩ = some (.slice Ae ne ce) := Later.cell (kk1.cell 5)
      have r5 : ∀ s : Later wr, s.val.cell? ⟨g + 1, 5, none⟩ = some (.slice Be me de) := Later.cell (kk2.cell 5)
      have HKK1 := Lib.hid kk1
      have HKK2 := Lib.hid kk2
      clear kk1 kk2
      by_cases hin : k < ne ∧ k < me
      · obtain ⟨hlt1, hlt2⟩ := hin
        have z1 : decide ((k : Int) < (ne : Int)) = true := decide_eq_true (by omega)
        have z2 : decide ((k : Int) < (me : Int)) = true := decide_eq_true (by omega)
        have z3 : decide (k < ne) = true := decide_eq_true hlt1
        have z4 : decide (k < me) = true := decide_eq_true hlt2
        have hlv : k < f2.es.length := by rw [← HNE.out]; exact hlt1
        have hlv2 : k < t.es.length := by rw [← HME.out]; exact hlt2
        obtain ⟨b9, off9, c9, cs9, hv9, _, ⟨v9, rfl, hr9, h91, h92⟩, hcell9⟩ := (GF2.out.below hb).at_ hlv
        obtain ⟨b8, off8, c8, cs8, hv8, _, ⟨v8, rfl, hr8, h81, h82⟩, hcell8⟩ := (RSl.kp (ok := fun b => b < g) (.of_belowB hB1r fun b (h : b < g) _ => by omega) G2B.out : RSl rEnt (fun b => b < g) wr _ t.es).at_ hlv2
        rw [← HNE.out] at hv9
        rw [← HME.out] at hv8
        obtain ⟨rfl, rfl⟩ : Ae = some ⟨b9, off9, none⟩ ∧ ce = c9 := by simpa using hv9
        obtain ⟨rfl, rfl⟩ : Be = some ⟨b8, off8, none⟩ ∧ de = c8 := by simpa using hv8
        obtain ⟨A9, d9, rfl, hf9⟩ := hr9.form
        obtain ⟨A8, d8, rfl, hf8⟩ := hr8.form
        obtain ⟨e, he⟩ : ∃ e, e = f2.es[k] := ⟨_, rfl⟩
        obtain ⟨x, hx⟩ : ∃ x, x = t.es[k] := ⟨_, rfl⟩
        have HD := Lib.hid (show comN f2.es t.es = k + (if e.term = x.term ∧ e.idx = x.idx ∧ e.data = x.data then comN (f2.es.drop (k + 1)) (t.es.drop (k + 1)) + 1 else 0) by
          rw [HP.out, List.drop_eq_getElem_cons hlv, List.drop_eq_getElem_cons hlv2, he, hx]
          rfl)
        rw [← he] at hcell9 hr9 h91 h92 hf9
        rw [← hx] at hcell8 hr8 h81 h82 hf8
        have HC := Lib.hid (fun (w' : World) (hb : Below wr.heap.size wr w') => sameEntry_any (e := e) (f := x) (hr9.below hb) (hr8.below hb))
        obtain ⟨m9, hm9⟩ : ∃ m, m = e.data.length := ⟨_, rfl⟩
        obtain ⟨m8, hm8⟩ : ∃ m, m = x.data.length := ⟨_, rfl⟩
        rw [← hm9] at hcell9 HC
        rw [← hm8] at hcell8 HC
        obtain ⟨q, hq⟩ : ∃ q, q = entEq e x := ⟨_, rfl⟩
        rw [← hq] at HC
        have HQ := Lib.hid hq
        have q0 : ∀ s : Later wr, s.val.cell? ⟨b9, off9 + k * 3, none⟩ = some (.int .u64 (e.term : Int)) := Later.cell (hcell9 0 _ rfl)
        have q1 : ∀ s : Later wr, s.val.cell? ⟨b9, off9 + k * 3 + 1, none⟩ = some (.int .u64 (e.idx : Int)) := Later.cell (by have := hcell9 1 _ rfl; rwa [Nat.add_assoc])
        have q2 : ∀ s : Later wr, s.val.cell? ⟨b9, off9 + k * 3 + 2, none⟩ = some (.slice A9 m9 d9) := Later.cell (by have := hcell9 2 _ rfl; rwa [Nat.add_assoc])
        have s0 : ∀ s : Later wr, s.val.cell? ⟨b8, off8 + k * 3, none⟩ = some (.int .u64 (x.term : Int)) := Later.cell (hcell8 0 _ rfl)
        have s1 : ∀ s : Later wr, s.val.cell? ⟨b8, off8 + k * 3 + 1, none⟩ = some (.int .u64 (x.idx : Int)) := Later.cell (by have := hcell8 1 _ rfl; rwa [Nat.add_assoc])
        have s2 : ∀ s : Later wr, s.val.cell? ⟨b8, off8 + k * 3 + 2, none⟩ = some (.slice A8 m8 d8) := Later.cell (by have := hcell8 2 _ rfl; rwa [Nat.add_assoc])
        clear hcell9 hcell8 hr9 hr8 h91 h92 h81 h82 hf9 hf8 hm9 hm8 hv9 hv8 he hx hq HP
        go_upto_region 9 with fail
        refine wp_seqL [23] (by as_aux_lemma => kernel_rfl) (by as_aux_lemma => kernel_rfl) fun wC hbC => ?_
        refine seqL_pre 23 (by kernel_rfl) ?_
        simp only [List.take_succ_cons, List.take_zero, List.drop_succ_cons, List.drop_zero]
        repeat (go_big_quiet_step (fail))
        refine wpQuiet_nil ?_
        refine seqL_wild hbC rfl rfl fun K hK => ?_
        unfold Gives
        go_simp
        refine (HC.out wC hbC).mono ?_
        rintro y wD ⟨rfl, hbD⟩
        refine ⟨_, rfl, hK _ _ (hbD) fun hbD' => ?_⟩
        clear hK
        clear K
        simp only [Act.put, List.setIfInBounds_toArray, List.set_cons_succ, List.set_cons_zero]
        refine seqL_pre 1 (by kernel_rfl) ?_
        simp only [List.take_succ_cons, List.take_zero, List.drop_succ_cons, List.drop_zero]
        repeat (go_big_quiet_step (fail))
        refine wpQuiet_nil ?_
        refine seqL_nil ?_
        have hbz := hb.trans (hbD'.mono hb.size)
        cases q
        · have HF := Lib.hid (show comN f2.es t.es = k by
            have h1 : ¬ e = x := fun h => by have := (entEq_iff e x).2 h; rw [← HQ.out] at this; cases this
            rw [HD.out, if_neg (fun h => h1 (by cases e; cases x; simp only at h; rw [h.1, h.2.1, h.2.2]))]
            rfl)
          clear HD HC q0 q1 q2 s0 s1 s2 p5 r5
          go_wp2
          go_meet
          exact ⟨by rw [HF.out], hbz⟩
        · have HF := Lib.hid (show comN f2.es t.es = (k + 1) + comN (f2.es.drop (k + 1)) (t.es.drop (k + 1)) by
            have h1 := (entEq_iff e x).1 HQ.out.symm
            rw [HD.out, if_pos (by rw [h1]; exact ⟨rfl, rfl, rfl⟩)]
            omega)
          clear HD HC q0 q1 q2 s0 s1 s2 p5 r5
          go_wp2
          go_roundw
          case rel => exact ⟨k + 1, by omega, by omega, by go_num, hbz, HF⟩
          case measure => simp [intOf]; omega
      · have HF := Lib.hid (show comN f2.es t.es = k by
          rw [HP.out]
          have h0 : comN (f2.es.drop k) (t.es.drop k) = 0 := by
            rcases Nat.lt_or_ge k ne with h | h
            · rw [List.drop_of_length_le (l := t.es) (by rw [← HME.out]; omega)]
              unfold comN
              cases f2.es.drop k <;> rfl
            · rw [List.drop_of_length_le (l := f2.es) (by rw [← HNE.out]; omega)]
              unfold comN
              cases t.es.drop k <;> rfl
          omega)
        clear HP
        go_upto_region 9 with fail
        refine wp_seqL [23] (by as_aux_lemma => kernel_rfl) (by as_aux_lemma => kernel_rfl) fun wC hbC => ?_
        have hbz := hb.trans (hbC.mono hb.size)
        rcases Nat.lt_or_ge k ne with h | h
        · have z1 : decide ((k : Int) < (ne : Int)) = true := decide_eq_true (by omega)
          have z2 : decide ((k : Int) < (me : Int)) = false := decide_eq_false (by omega)
          have z3 : decide (k < ne) = true := decide_eq_true h
          have z4 : decide (k < me) = false := decide_eq_false (by omega)
          refine seqL_pre 23 (by kernel_rfl) ?_
          simp only [List.take_succ_cons, List.take_zero, List.drop_succ_cons, List.drop_zero]
          repeat (go_big_quiet_step (fail))
          refine wpQuiet_nil ?_
          refine seqL_skip rfl ?_
          simp only [Act.put, List.setIfInBounds_toArray, List.set_cons_succ, List.set_cons_zero]
          refine seqL_pre 1 (by kernel_rfl) ?_
          simp only [List.take_succ_cons, List.take_zero, List.drop_succ_cons, List.drop_zero]
          repeat (go_big_quiet_step (fail))
          refine wpQuiet_nil ?_
          refine seqL_nil ?_
          clear p5 r5
          go_wp2
          go_meet
          exact ⟨by rw [HF.out], hbz⟩
        · have z1 : decide ((k : Int) < (ne : Int)) = false := decide_eq_false (by omega)
          have z3 : decide (k < ne) = false := decide_eq_false (by omega)
          refine seqL_pre 23 (by kernel_rfl) ?_
          simp only [List.take_succ_cons, List.take_zero, List.drop_succ_cons, List.drop_zero]
          repeat (go_big_quiet_step (fail))
          refine wpQuiet_nil ?_
          refine seqL_skip rfl ?_
          simp only [Act.put, List.setIfInBounds_toArray, List.set_cons_succ, List.set_cons_zero]
          refine seqL_pre 1 (by kernel_rfl) ?_
          simp only [List.take_succ_cons, List.take_zero, List.drop_succ_cons, List.drop_zero]
          repeat (go_big_quiet_step (fail))
          refine wpQuiet_nil ?_
          refine seqL_nil ?_
          clear p5 r5
          go_wp2
          go_meet
          exact ⟨by rw [HF.out], hbz⟩
  obtain ⟨rfl, hBC⟩ := hcut
  obtain ⟨wC, rfl⟩ : ∃ wC, wC = wc := ⟨_, rfl⟩
  obtain ⟨kc, hkc⟩ : ∃ kc, kc = comN f2.es t.es := ⟨_, rfl⟩
  rw [← hkc]
  have hkl := comN_le f2.es t.es
  rw [← hkc, ← HNE.out, ← HME.out] at hkl
  have hkc1 : kc ≤ ne := hkl.1
  have hkc2 : kc ≤ me := hkl.2.1
  have HKC := Lib.hid hkc
  clear hkl hkc
  have hzC := hBC.size
  have hB1C : Below (g + 2) wB wC := hB1B.trans (hBC.mono (by have := hB1B.size; have := HZ1.out; omega))
  have HOC := Lib.hid (HOB.out.below hBC)
  have hOltC := HOC.out.lt
  have hgC : g + 2 ≤ wC.heap.size := by have := hB1C.size; have := HZ1.out; omega
  have kk1 := HK1.out.below hBC HK1.out.lt
  have kk2 := HK2.out.below hB1C (by omega)
  have p5 : wC.cell? ⟨g, 5, none⟩ = some (.slice Ae ne ce) := kk1.cell 5
  clear kk1 kk2
  go_upto_if 106 with fail
  go_cut [7] (fun v wx => ∃ (A : Option Addr) (n c : Nat), v = .slice A n c ∧ n ≤ 4 ∧ Hid (OwnL rBs (fun b => g + 2 ≤ b) (g + 2) 25 wx (.slice A n c) (L2 ++ (backT f2.es kc).map encT)) ∧ Below (g + 2) wB wx)
  case first =>
    have hn5l : L2.length = n5 := by
      obtain ⟨A', c', hv', _⟩ := HOC.out.form
      have : n5 = L2.length := by simpa using (show A5 = A' ∧ n5 = _ ∧ c5 = c' by simpa using hv').2.1
      exact this.symm
    by_cases hlt : kc < ne
    · have z1 : decide ((kc : Int) < (ne : Int)) = true := decide_eq_true (by omega)
      have z2 : decide (kc < ne) = true := decide_eq_true hlt
      have hlv : kc < f2.es.length := by rw [← HNE.out]; exact hlt
      obtain ⟨b9, off9, c9, cs9, hv9, _, ⟨v9, rfl, hr9, h91, h92⟩, hcell9⟩ := (GF2.out.below hBC).at_ hlv
      rw [← HNE.out] at hv9
      obtain ⟨rfl, rfl⟩ : Ae = some ⟨b9, off9, none⟩ ∧ ce = c9 := by simpa using hv9
      obtain ⟨e, he⟩ : ∃ e, e = f2.es[kc] := ⟨_, rfl⟩
      rw [← he] at hcell9 h92
      have q1 : wC.cell? ⟨b9, off9 + kc * 3 + 1, none⟩ = some (.int .u64 (e.idx : Int)) := by have := hcell9 1 _ rfl; rwa [Nat.add_assoc]
      have HE := Lib.hid (show (backT f2.es kc).map encT = [numsB [5, e.idx]] by
        unfold backT
        rw [List.getElem?_eq_getElem hlv, he]
        simp [numsB, encT])
      have HI := Lib.hid h92
      clear hcell9 hv9 hr9 h91 h92 he
      go_wp2_with fail
      refine (nums2_any 5 e.idx (by omega) HI.out wC).mono ?_
      rintro x wD ⟨⟨v4, rfl, hv4⟩, hBD⟩
      obtain ⟨A4, c4, rfl, hf4⟩ := hv4.form
      obtain ⟨n4, hn4⟩ : ∃ n, n = (numsB [5, e.idx]).length := ⟨_, rfl⟩
      rw [← hn4] at hv4 ⊢
      clear hf4 hn4
      have hzD := hBD.size
      have ho4 := HOC.out.below hBD
      have hbo : rBs.rel (fun b => g + 2 ≤ b ∧ some b ≠ (Value.slice A5 n5 c5).ownBlock) wD [.slice A4 n4 c4] (numsB [5, e.idx]) := ⟨_, rfl, hv4.mono (by decide) fun b hb _ => ⟨by omega, fun h => by have := (hOltC b h.symm).2; omega⟩⟩
      clear hv4
      go_wp2_with (at_builtin; go_loud (refine wp_app1 (E := rBs) (okd := fun b => g + 2 ≤ b) Tryz.rowBs (by decide) rfl _ _ rfl (.slice A5 n5 c5) L2 wD #[.slice A4 n4 c4] (numsB [5, e.idx]) rfl ho4 rfl hbo (by rw [hn5l]; show (n5 + 1) * 24 ≤ _; omega) (by rw [hn5l]; omega) (by omega) ?_); intro v' wE hoE hkE hlocE)
      obtain ⟨AE, cE, rfl, hcE⟩ := hoE.form
      have hBE : Below (g + 2) wB wE := (hB1C.trans (hBD.mono (by omega))).trans (hkE.below (by omega) fun b hb h => by have := (hOltC b h.symm).1; omega)
      go_meet
      refine ⟨AE, (L2 ++ [numsB [5, e.idx]]).length, cE, rfl, by rw [List.length_append, hn5l, List.length_singleton]; omega, Lib.hid ?_, hBE⟩
      rw [HE.out]
      exact hoE
    · have z1 : decide ((kc : Int) < (ne : Int)) = false := decide_eq_false (by omega)
      have z2 : decide (kc < ne) = false := decide_eq_false hlt
      have HE := Lib.hid (show (backT f2.es kc).map encT = [] by
        unfold backT
        rw [List.getElem?_eq_none_iff.2 (by rw [← HNE.out]; omega)]
        rfl)
      go_wp2
      go_meet
      exact ⟨A5, n5, c5, rfl, by omega, by rw [HE.out, List.append_nil]; exact HOC, hB1C⟩
  obtain ⟨A6, n6, c6, rfl, hn6, HO6, hB6⟩ := hcut
  obtain ⟨wD, rfl⟩ : ∃ wD, wD = wc := ⟨_, rfl⟩
  obtain ⟨L3, hL3⟩ : ∃ L, L = L2 ++ (backT f2.es kc).map encT := ⟨_, rfl⟩
  rw [← hL3] at HO6
  have HL3 := Lib.hid hL3
  have hL6 : L3.length = n6 := by
    obtain ⟨A', c', hv', _⟩ := HO6.out.form
    exact (show A6 = A' ∧ n6 = L3.length ∧ c6 = c' by simpa using hv').2.1.symm
  clear hL3 p5 HOC hOltC
  have hgD : g + 2 ≤ wD.heap.size := by have := hB6.size; have := HZ1.out; omega
  have kk2 := HK2.out.below hB6 (by omega)
  have r5 : wD.cell? ⟨g + 1, 5, none⟩ = some (.slice Be me de) := kk2.cell 5
  clear kk2
  -- TAIL
  by_cases hlt : kc < me
  · have hdk : ¬ de = kc := by omega
    have z0 : decide (de = kc) = false := decide_eq_false hdk
    have hG2 : RSl rEnt (fun b => b < g) wD (.slice Be me de) t.es := RSl.kp (ok := fun b => b < g) (.of_belowB hB6 fun b (h : b < g) _ => by omega) G2B.out
    obtain ⟨b8, off8, c8, cs8, hv8, hb8g, _⟩ := hG2.at_ (i := kc) (by rw [← HME.out]; exact hlt)
    rw [← HME.out] at hv8
    obtain ⟨rfl, hx8⟩ : Be = some ⟨b8, off8, none⟩ ∧ de = c8 := by simpa using hv8
    clear hv8 hx8
    have HG2 := Lib.hid hG2
    clear hG2
    go_upto_region 14 with fail
    clear r5
    go_loopw [7, 123] (fun vl vi wr => ∃ (i n c : Nat) (A : Option Addr), kc + i ≤ me ∧ vi = .int .i64 (i : Int) ∧ vl = .slice A n c ∧ n = n6 + i ∧ Hid (OwnL rBs (fun b => g + 2 ≤ b) (g + 2) 25 wr (.slice A n c) (L3 ++ ((t.es.drop kc).take i).map entB)) ∧ Below (g + 2) wD wr) (fun _ vi _ => me - (intOf vi).toNat)
    case atStart => exact ⟨0, n6, c6, A6, by omega, rfl, rfl, by omega, by simpa using HO6, Below.refl _ _⟩
    case round =>
      obtain ⟨i, n, c, A, hi, rfl, rfl, hn, HO, hb⟩ := hrel
      have hB1r : Below (g + 2) wB wr := hB6.trans hb
      have hzr : g + 2 ≤ wr.heap.size := by have := hb.size; omega
      have hnl : (L3 ++ ((t.es.drop kc).take i).map entB).length = n := by
        obtain ⟨A', c', hv', _⟩ := HO.out.form
        exact (show A = A' ∧ n = (L3 ++ ((t.es.drop kc).take i).map entB).length ∧ c = c' by simpa using hv').2.1.symm
      by_cases hlt2 : kc + i < me
      · have z1 : decide ((i : Int) < (me : Int) - (kc : Int)) = true := decide_eq_true (by omega)
        have z2 : decide (i < me - kc) = true := decide_eq_true (by omega)
        have hil : kc + i < t.es.length := by rw [← HME.out]; exact hlt2
        obtain ⟨b9, off9, c9, cs9, hv9, _, ⟨vd, rfl, hvd, ht64, hi64⟩, hcell9⟩ := (RSl.kp (ok := fun b => b < g) (.of_belowB hb fun b (h : b < g) _ => by omega) HG2.out : RSl rEnt (fun b => b < g) wr _ t.es).at_ hil
        rw [← HME.out] at hv9
        obtain ⟨⟨rfl, rfl⟩, hx9⟩ : (b8 = b9 ∧ off8 = off9) ∧ de = c9 := by simpa using hv9
        clear hv9 hx9
        obtain ⟨A7, c7, rfl, hf7⟩ := hvd.form
        obtain ⟨e, he⟩ : ∃ e, e = t.es[kc + i] := ⟨_, rfl⟩
        rw [← he] at hcell9 ht64 hi64 hf7 hvd
        obtain ⟨dl, hdl⟩ : ∃ dl, dl = e.data.length := ⟨_, rfl⟩
        rw [← hdl] at hcell9 hvd
        have had : ∀ j, off8 + (kc + i) * 3 + j = off8 + kc * 3 + i * 3 + j := fun j => by omega
        have q0 : wr.cell? ⟨b8, off8 + kc * 3 + i * 3, none⟩ = some (.int .u64 (e.term : Int)) := by have := hcell9 0 _ rfl; rwa [show off8 + (kc + i) * rEnt.sz + 0 = off8 + kc * 3 + i * 3 by show off8 + (kc + i) * 3 + 0 = _; omega] at this
        have q1 : wr.cell? ⟨b8, off8 + kc * 3 + i * 3 + 1, none⟩ = some (.int .u64 (e.idx : Int)) := by have := hcell9 1 _ rfl; rwa [show off8 + (kc + i) * rEnt.sz + 1 = off8 + kc * 3 + i * 3 + 1 by show off8 + (kc + i) * 3 + 1 = _; omega] at this
        have q2 : wr.cell? ⟨b8, off8 + kc * 3 + i * 3 + 2, none⟩ = some (.slice A7 dl c7) := by have := hcell9 2 _ rfl; rwa [show off8 + (kc + i) * rEnt.sz + 2 = off8 + kc * 3 + i * 3 + 2 by show off8 + (kc + i) * 3 + 2 = _; omega] at this
        have HVD := Lib.hid hvd
        have HE := Lib.hid he
        have HDL := Lib.hid hdl
        have HT := Lib.hid ht64
        clear hcell9 hvd he hdl ht64 hi64 hf7 had
        go_upto_region 16 with fail
        obtain ⟨we, hwe⟩ : ∃ we, we = wr.heap.size := ⟨_, rfl⟩
        refine name_world (fun w4 => Blk w4 we 50 #[.int .u64 (e.term : Int), .int .u64 (e.idx : Int), .slice A7 dl c7] ∧ Below wr.heap.size wr w4) ⟨by rw [hwe]; exact Blk.new _ _ _, (Below.refl _ _).alloc (Nat.le_refl _) _⟩ ?_
        rintro w4 ⟨k4, hB4⟩
        rw [← hwe]
        have hOlt := HO.out.lt
        have hz4 := hB4.size
        have hlt4 := k4.lt
        have hbad : ¬ some we = (Value.slice A n c).ownBlock := fun h => by have := (hOlt we h.symm).2; omega
        have x0 : ∀ s : LaterB w4 (fun y => some y = (Value.slice A n c).ownBlock), s.val.cell? ⟨we, 0, none⟩ = some (.int .u64 (e.term : Int)) := LaterB.cell (k4.cell 0) hbad
        have x2 : ∀ s : LaterB w4 (fun y => some y = (Value.slice A n c).ownBlock), s.val.cell? ⟨we, 2, none⟩ = some (.slice A7 dl c7) := LaterB.cell (k4.cell 2) hbad
        have HWE := Lib.hid hwe
        have HO4 := Lib.hid (HO.out.below hB4)
        clear q0 q1 q2 k4 hwe
        refine wp_seqB (fun y => some y = (Value.slice A n c).ownBlock) 11 [3, 4, 7, 8, 9, 10, 11] (by as_aux_lemma => kernel_rfl) (by as_aux_lemma => kernel_rfl) fun wF hbF => ?_
        refine seqB_pre 3 (by kernel_rfl) ?_
        simp only [List.take_succ_cons, List.take_zero, List.drop_succ_cons, List.drop_zero]
        repeat (go_big_quiet_step (fail))
        refine wpQuiet_nil ?_
        refine seqB_wild0 hbF rfl rfl fun K hK => ?_
        unfold Gives
        go_simp
        have ha1 : Below wF.heap.size wF (wF.alloc (.cells #[.int .u64 6, .int .u64 (e.term : Int)] 22)) := (Below.refl _ _).alloc (Nat.le_refl _) _
        refine hK _ _ ha1 fun hbG => ?_
        clear hK
        clear K
        simp only [Act.put, List.setIfInBounds_toArray, List.set_cons_succ, List.set_cons_zero]
        refine seqB_wild0 hbG rfl rfl fun K hK => ?_
        unfold Gives
        go_simp
        refine (nums_any _ [6, e.term] _ (rsl_nums wF 22 [6, e.term] (by intro x hx; simp at hx; rcases hx with rfl | rfl; omega; exact HT.out) (by simp)) (by simp)).mono ?_
        rintro x wH ⟨⟨AH, cH, rfl, hoH⟩, hbH⟩
        refine ⟨_, rfl, hK _ _ (hbH) fun hbH' => ?_⟩
        clear hK
        clear K
        simp only [Act.put, List.setIfInBounds_toArray, List.set_cons_succ, List.set_cons_zero]
        refine seqB_pre 2 (by kernel_rfl) ?_
        simp only [List.take_succ_cons, List.take_zero, List.drop_succ_cons, List.drop_zero]
        repeat (go_big_quiet_step (fail))
        refine wpQuiet_nil ?_
        have hdle : e.data.length ≤ 1000000 := HD.out e (by rw [HE.out]; exact List.getElem_mem _)
        refine seqB_wild0 hbH' rfl rfl fun K hK => ?_
        unfold Gives
        go_simp
        refine (text_any _ e.data wH (RSl.below (RSl.below HVD.out hB4) hbH') (by omega)).mono ?_
        rintro x wI ⟨⟨AI, cI, rfl, hoI⟩, hbI⟩
        refine ⟨_, rfl, hK _ _ (hbI) fun hbI' => ?_⟩
        clear hK
        clear K
        simp only [Act.put, List.setIfInBounds_toArray, List.set_cons_succ, List.set_cons_zero]
        have hl1 := numsB_len [6, e.term]
        have hl2 : (txtB e.data).length ≤ 1000010 := by unfold txtB; rw [List.length_append]; have := numB_len e.data.length; omega
        have hu1 := (hoH.rb (by simp at hl1; omega))
        have hu2 := (hoI.rb (by omega))
        obtain ⟨n1, hn1'⟩ : ∃ n, n = (numsB [6, e.term]).length := ⟨_, rfl⟩
        obtain ⟨n2, hn2'⟩ : ∃ n, n = (txtB e.data).length := ⟨_, rfl⟩
        rw [← hn1'] at hu1 hl1 ⊢
        rw [← hn2'] at hu2 hl2 ⊢
        have HN1 := Lib.hid hn1'
        have HN2 := Lib.hid hn2'
        clear hn1' hn2' hoH hoI
        refine seqB_wild0 hbI' rfl rfl fun K hK => ?_
        unfold Gives
        go_simp
        have ha2 : Below wI.heap.size wI (wI.alloc (.cells #[.slice AH n1 cH, .slice AI n2 cI] 25)) := (Below.refl _ _).alloc (Nat.le_refl _) _
        have kJ := Blk.new wI 25 #[.slice AH n1 cH, .slice AI n2 cI]
        refine hK _ _ ha2 fun hbJ => ?_
        clear hK
        clear K
        simp only [Act.put, List.setIfInBounds_toArray, List.set_cons_succ, List.set_cons_zero]
        refine seqB_wild0 hbJ rfl rfl fun K hK => ?_
        unfold Gives
        go_simp
        refine (concat_any wI.heap.size _ _ (numsB [6, e.term]) (txtB e.data) _ (kJ.cell 0) (kJ.cell 1) (RSl.below (RSl.below hu1 hbI) ha2) (RSl.below hu2 ha2) (by rw [← HN1.out]; simp at hl1; omega) (by rw [← HN2.out]; omega)).mono ?_
        rintro x wJ ⟨⟨AJ, cJ, rfl, hoJ⟩, hbK⟩
        refine ⟨_, rfl, hK _ _ (hbK) fun hbK' => ?_⟩
        clear hK
        clear K
        simp only [Act.put, List.setIfInBounds_toArray, List.set_cons_succ, List.set_cons_zero]
        have hll : (numsB [6, e.term] ++ txtB e.data).length ≤ 1000030 := by rw [List.length_append, ← HN1.out, ← HN2.out]; simp at hl1; omega
        have hcat : entB e = numsB [6, e.term] ++ txtB e.data := by simp [entB, encT, numsB]
        rw [← hcat] at hoJ hll ⊢
        have huJ := hoJ.rb (by omega)
        obtain ⟨nJ, hnJ⟩ : ∃ n, n = (entB e).length := ⟨_, rfl⟩
        rw [← hnJ] at huJ ⊢
        clear hnJ hoJ hll hcat
        refine seqB_wild0 hbK' rfl rfl fun K hK => ?_
        unfold Gives
        go_simp
        have ha3 : Below wJ.heap.size wJ (wJ.alloc (.cells #[.slice AJ nJ cJ] 25)) := (Below.refl _ _).alloc (Nat.le_refl _) _
        refine hK _ _ ha3 fun hbL => ?_
        clear hK
        clear K
        simp only [Act.put, List.setIfInBounds_toArray, List.set_cons_succ, List.set_cons_zero]
        have hzI := hbI'.size
        have hzJ : wI.heap.size < (wI.alloc (.cells #[.slice AH n1 cH, .slice AI n2 cI] 25)).heap.size := by simp
        have hz4r : wr.heap.size ≤ wI.heap.size := by omega
        have hvJ : rBs.rel (fun b => g + 2 ≤ b ∧ some b ≠ (Value.slice A n c).ownBlock) (wJ.alloc (.cells #[.slice AJ nJ cJ] 25)) [.slice AJ nJ cJ] (entB e) := ⟨_, rfl, (RSl.below huJ ha3).mono (by decide) fun b hb _ => by
          have hb' : (wI.alloc (.cells #[.slice AH n1 cH, .slice AI n2 cI] 25)).heap.size ≤ b := hb
          exact ⟨by omega, fun h => by have := (hOlt b h.symm).2; omega⟩⟩
        refine seqB_wild (Kp.of_below hbL) rfl rfl fun K hK => ?_
        refine gives_app0' (E := rBs) Tryz.rowBs (by decide) _ _ rfl (.slice A n c) (L3 ++ ((t.es.drop kc).take i).map entB) _ rfl (HO4.out.below hbL) (some ⟨wJ.heap.size, 0, none⟩) 1 [entB e] [[.slice AJ nJ cJ]] rfl (show Rd _ 1 _ _ _ by simpa using Rd.new wJ 25 1 1 #[.slice AJ nJ cJ] rfl) (Chunks.single (E := rBs) hvJ) ?_ ?_ (by have := hbL.size; omega) fun v' wM hoM hkM hlocM => ?_
        · rw [hnl]
          show (n + 1) * 24 ≤ _
          omega
        · rw [hnl]
          show n + 1 ≤ _
          omega
        refine hK _ _ ((hkM.mono fun y hy e => hy e)) fun hKM => ?_
        clear hK
        clear K
        simp only [Act.put, List.setIfInBounds_toArray, List.set_cons_succ, List.set_cons_zero]
        refine seqB_pre 1 (by kernel_rfl) ?_
        simp only [List.take_succ_cons, List.take_zero, List.drop_succ_cons, List.drop_zero]
        repeat (go_big_quiet_step (fail))
        refine wpQuiet_nil ?_
        refine seqB_nil ?_
        obtain ⟨AM, cM, rfl, hcM⟩ := hoM.form
        have hlM : ((L3 ++ ((t.es.drop kc).take i).map entB) ++ [entB e]).length = n + 1 := by rw [List.length_append, hnl]; rfl
        rw [hlM] at hoM ⊢
        have hBM : Below (g + 2) w4 wM := hKM.below (by omega) fun b hb h => by have := (hOlt b h.symm).1; omega
        have htk : ((t.es.drop kc).take (i + 1)).map entB = ((t.es.drop kc).take i).map entB ++ [entB e] := by
          have hdl : i < (t.es.drop kc).length := by rw [List.length_drop]; omega
          rw [List.take_succ_eq_append_getElem hdl, List.map_append, List.getElem_drop, ← HE.out]
          rfl
        have HOM := Lib.hid (show OwnL rBs (fun b => g + 2 ≤ b) (g + 2) 25 wM (.slice AM (n + 1) cM) (L3 ++ ((t.es.drop kc).take (i + 1)).map entB) by
          rw [htk, ← List.append_assoc]
          exact hoM)
        have hBz : Below (g + 2) wD wM := (hb.trans (hB4.mono (by omega))).trans hBM
        clear hoM hkM hlocM hvJ ha3 huJ hKM x0 x2 hcM hlM htk hBM
        go_wp2
        go_roundw
        case rel => exact ⟨i + 1, n + 1, cM, AM, by omega, by go_num, rfl, by omega, HOM, hBz⟩
        case measure => simp [intOf]; omega
      · have z1 : decide ((i : Int) < (me : Int) - (kc : Int)) = false := decide_eq_false (by omega)
        have z2 : decide (i < me - kc) = false := decide_eq_false (by omega)
        have HOZ := Lib.hid (show OwnL rBs (fun b => g + 2 ≤ b) (g + 2) 25 wr (.slice A n c) (L3 ++ (t.es.drop kc).map entB) by
          have := HO.out
          rwa [List.take_of_length_le (by rw [List.length_drop, ← HME.out]; omega)] at this)
        have hnz : (L3 ++ (t.es.drop kc).map entB).length = n := by
          rw [List.take_of_length_le (by rw [List.length_drop, ← HME.out]; omega)] at hnl
          exact hnl
        have HNZ := Lib.hid hnz
        have hnb : n ≤ 1000010 := by omega
        clear hnl hnz hn
        have hOlt := HOZ.out.lt
        have hzw : g + 2 ≤ wr.heap.size := by have := (hB1r).size; have := HZ1.out; omega
        go_wp2_with fail
        refine (nums1_any 7 (by omega) wr).mono ?_
        rintro x wX ⟨⟨v4, rfl, hv4⟩, hBX⟩
        obtain ⟨A4, c4, rfl, hf4⟩ := hv4.form
        obtain ⟨n4, hn4⟩ : ∃ n, n = (numsB [7]).length := ⟨_, rfl⟩
        rw [← hn4] at hv4 ⊢
        clear hf4 hn4
        have hzX := hBX.size
        have ho4 := HOZ.out.below hBX
        have hbo : rBs.rel (fun b => g + 2 ≤ b ∧ some b ≠ (Value.slice A n c).ownBlock) wX [.slice A4 n4 c4] (numsB [7]) := ⟨_, rfl, hv4.mono (by decide) fun b hb _ => ⟨by omega, fun h => by have := (hOlt b h.symm).2; omega⟩⟩
        clear hv4
        go_wp2_with (at_builtin; go_loud (refine wp_app1 (E := rBs) (okd := fun b => g + 2 ≤ b) Tryz.rowBs (by decide) rfl _ _ rfl (.slice A n c) (L3 ++ (t.es.drop kc).map entB) wX #[.slice A4 n4 c4] (numsB [7]) rfl ho4 rfl hbo (by rw [HNZ.out]; show (n + 1) * 24 ≤ _; omega) (by rw [HNZ.out]; omega) (by omega) ?_); intro v' wE hoE hkE hlocE)
        go_ret
        have hBE : Below (g + 2) wB wE := ((hB1r).trans (hBX.mono (by omega))).trans (hkE.below (by omega) fun b hb h => by have := (hOlt b h.symm).1; omega)
        refine ⟨⟨v', rfl, ?_⟩, by rw [← HG.out]; exact hBgB.trans (hBE.mono (by omega))⟩
        have hre := hoE.rsl (ok := fun b => g ≤ b) (by decide) (by rw [List.length_append, HNZ.out]; show (n + 1) * 24 ≤ _; omega) (fun b hb => by omega) fun b hb => by omega
        have hTM := things_map (f := f) (t := t) kd HK.out HF2.out
        rw [← HL2.out, ← HKC.out, ← HL3.out] at hTM
        rw [HK0.out, hTM, ← HG.out]
        exact hre

  · have HKM := Lib.hid (show kc = me by omega)
    by_cases hdk : de = kc
    · obtain rfl := hdk
      go_upto_region 14 with fail
      clear r5
      go_loopw [7, 123] (fun vl vi wr => vl = .slice A6 n6 c6 ∧ vi = .int .i64 0 ∧ wr = wD) (fun _ _ _ => 0)
      case atStart => exact ⟨rfl, rfl, rfl⟩
      case round =>
        obtain ⟨rfl, rfl, hwr⟩ := hrel
        rw [hwr]
        clear hwr
        have z1 : decide ((0 : Int) < (me : Int) - (de : Int)) = false := decide_eq_false (by omega)
        have z2 : decide (0 < me - de) = false := decide_eq_false (by omega)
        have hOlt := HO6.out.lt
        have hzw : g + 2 ≤ wD.heap.size := by have := (hB6).size; have := HZ1.out; omega
        go_wp2_with fail
        refine (nums1_any 7 (by omega) wD).mono ?_
        rintro x wX ⟨⟨v4, rfl, hv4⟩, hBX⟩
        obtain ⟨A4, c4, rfl, hf4⟩ := hv4.form
        obtain ⟨n4, hn4⟩ : ∃ n, n = (numsB [7]).length := ⟨_, rfl⟩
        rw [← hn4] at hv4 ⊢
        clear hf4 hn4
        have hzX := hBX.size
        have ho4 := HO6.out.below hBX
        have hbo : rBs.rel (fun b => g + 2 ≤ b ∧ some b ≠ (Value.slice A6 n6 c6).ownBlock) wX [.slice A4 n4 c4] (numsB [7]) := ⟨_, rfl, hv4.mono (by decide) fun b hb _ => ⟨by omega, fun h => by have := (hOlt b h.symm).2; omega⟩⟩
        clear hv4
        go_wp2_with (at_builtin; go_loud (refine wp_app1 (E := rBs) (okd := fun b => g + 2 ≤ b) Tryz.rowBs (by decide) rfl _ _ rfl (.slice A6 n6 c6) (L3) wX #[.slice A4 n4 c4] (numsB [7]) rfl ho4 rfl hbo (by rw [hL6]; show (n6 + 1) * 24 ≤ _; omega) (by rw [hL6]; omega) (by omega) ?_); intro v' wE hoE hkE hlocE)
        go_ret
        have hBE : Below (g + 2) wB wE := ((hB6).trans (hBX.mono (by omega))).trans (hkE.below (by omega) fun b hb h => by have := (hOlt b h.symm).1; omega)
        refine ⟨⟨v', rfl, ?_⟩, by rw [← HG.out]; exact hBgB.trans (hBE.mono (by omega))⟩
        have hre := hoE.rsl (ok := fun b => g ≤ b) (by decide) (by rw [List.length_append, hL6]; show (n6 + 1) * 24 ≤ _; omega) (fun b hb => by omega) fun b hb => by omega
        have hTM := things_map (f := f) (t := t) kd HK.out HF2.out
        rw [← HL2.out, ← HKC.out, ← HL3.out] at hTM
        rw [HK0.out, hTM, List.drop_of_length_le (by rw [← HME.out]; have := HKM.out; omega), List.map_nil, List.append_nil, ← HG.out]
        exact hre
    · have z0 : decide (de = kc) = false := decide_eq_false hdk
      go_upto_region 14 with fail
      clear r5
      go_loopw [7, 123] (fun vl vi wr => vl = .slice A6 n6 c6 ∧ vi = .int .i64 0 ∧ wr = wD) (fun _ _ _ => 0)
      case atStart => exact ⟨rfl, rfl, rfl⟩
      case round =>
        obtain ⟨rfl, rfl, hwr⟩ := hrel
        rw [hwr]
        clear hwr
        have z1 : decide ((0 : Int) < (me : Int) - (kc : Int)) = false := decide_eq_false (by omega)
        have z2 : decide (0 < me - kc) = false := decide_eq_false (by omega)
        have hOlt := HO6.out.lt
        have hzw : g + 2 ≤ wD.heap.size := by have := (hB6).size; have := HZ1.out; omega
        go_wp2_with fail
        refine (nums1_any 7 (by omega) wD).mono ?_
        rintro x wX ⟨⟨v4, rfl, hv4⟩, hBX⟩
        obtain ⟨A4, c4, rfl, hf4⟩ := hv4.form
        obtain ⟨n4, hn4⟩ : ∃ n, n = (numsB [7]).length := ⟨_, rfl⟩
        rw [← hn4] at hv4 ⊢
        clear hf4 hn4
        have hzX := hBX.size
        have ho4 := HO6.out.below hBX
        have hbo : rBs.rel (fun b => g + 2 ≤ b ∧ some b ≠ (Value.slice A6 n6 c6).ownBlock) wX [.slice A4 n4 c4] (numsB [7]) := ⟨_, rfl, hv4.mono (by decide) fun b hb _ => ⟨by omega, fun h => by have := (hOlt b h.symm).2; omega⟩⟩
        clear hv4
        go_wp2_with (at_builtin; go_loud (refine wp_app1 (E := rBs) (okd := fun b => g + 2 ≤ b) Tryz.rowBs (by decide) rfl _ _ rfl (.slice A6 n6 c6) (L3) wX #[.slice A4 n4 c4] (numsB [7]) rfl ho4 rfl hbo (by rw [hL6]; show (n6 + 1) * 24 ≤ _; omega) (by rw [hL6]; omega) (by omega) ?_); intro v' wE hoE hkE hlocE)
        go_ret
        have hBE : Below (g + 2) wB wE := ((hB6).trans (hBX.mono (by omega))).trans (hkE.below (by omega) fun b hb h => by have := (hOlt b h.symm).1; omega)
        refine ⟨⟨v', rfl, ?_⟩, by rw [← HG.out]; exact hBgB.trans (hBE.mono (by omega))⟩
        have hre := hoE.rsl (ok := fun b => g ≤ b) (by decide) (by rw [List.length_append, hL6]; show (n6 + 1) * 24 ≤ _; omega) (fun b hb => by omega) fun b hb => by omega
        have hTM := things_map (f := f) (t := t) kd HK.out HF2.out
        rw [← HL2.out, ← HKC.out, ← HL3.out] at hTM
        rw [HK0.out, hTM, List.drop_of_length_le (by rw [← HME.out]; have := HKM.out; omega), List.map_nil, List.append_nil, ← HG.out]
        exact hre
end Go.Proofs.YtnlhjhpikjmoaaaGreatDoor
