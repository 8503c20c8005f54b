/- Contracts: wal.lay, wal.take: a number in eight bytes.
Contracts: wal.take, wal.sectors. -/
import Derived.Test.YtnlhjhpikjmoaaaGreatDoorW7
import Derived.Test.YtnlhjhpikjmoaaaGreatDoorDec
namespace Go.Proofs.YtnlhjhpikjmoaaaGreatDoor
open Go.RowKit

def byteN (v : Nat) (i : Nat) : UInt8 := UInt8.ofNat (v / 2 ^ (56 - 8 * i) % 256)
def layB (lb : List UInt8) (off v n : Nat) : List UInt8 := (List.range n).foldl (fun l i => l.set (off + i) (byteN v i)) lb
theorem layB_succ (lb : List UInt8) (off v n : Nat) : layB lb off v (n + 1) = (layB lb off v n).set (off + n) (byteN v n) := by
  unfold layB
  rw [List.range_succ, List.foldl_append]
  rfl
theorem layB_len (lb : List UInt8) (off v : Nat) : ∀ n, (layB lb off v n).length = lb.length
  | 0 => rfl
  | n + 1 => by rw [layB_succ, List.length_set, layB_len lb off v n]
theorem bs_set (l : List UInt8) (i : Nat) (b : UInt8) : bs (l.set i b) = (bs l).set i (.int .u8 (b.toNat : Int)) := by
  unfold bs
  rw [List.map_set]
theorem byteN_be8 (v i : Nat) (h : i < 8) : (be8 v)[i]? = some (byteN v i) := by
  rw [be8_get v i h]
  unfold byteN
  congr 1
  apply UInt8.toNat_inj.1
  rw [UInt8.toNat_ofNat', UInt8.toNat_ofNat', Nat.mod_mod_of_dvd _ (by decide)]
theorem layB_take (lb : List UInt8) (off v : Nat) : ∀ n, n ≤ 8 → off + n ≤ lb.length → layB lb off v n = lb.take off ++ (be8 v).take n ++ lb.drop (off + n)
  | 0, _, _ => by simp [layB]
  | n + 1, h, hl => by
    have hb : (be8 v).take (n + 1) = (be8 v).take n ++ [byteN v n] := by
      have h1 : n < (be8 v).length := by rw [be8_length]; omega
      have h2 := byteN_be8 v n (by omega)
      rw [List.getElem?_eq_getElem h1] at h2
      rw [List.take_succ_eq_append_getElem h1, Option.some.inj h2]
    have hlen : (lb.take off ++ (be8 v).take n).length = off + n := by
      rw [List.length_append, List.length_take, List.length_take, be8_length]
      omega
    have hd : lb.drop (off + n) = lb[off + n] :: lb.drop (off + n + 1) := List.drop_eq_getElem_cons (by omega)
    rw [layB_succ, layB_take lb off v n (by omega) (by omega), hb, List.set_append_right _ _ (by omega), hlen, Nat.sub_self, hd, List.set_cons_zero]
    simp only [List.append_assoc, List.cons_append, List.nil_append, Nat.add_assoc]
/-- a number laid into bytes -/
def putN (lb : List UInt8) (off v : Nat) : List UInt8 := lb.take off ++ be8 v ++ lb.drop (off + 8)
theorem layB_put (lb : List UInt8) (off v : Nat) (h : off + 8 ≤ lb.length) : layB lb off v 8 = putN lb off v := by
  rw [layB_take lb off v 8 (Nat.le_refl _) h, show (be8 v).take 8 = be8 v from List.take_of_length_le (by rw [be8_length]; omega)]
  rfl
theorem byteN_val (v i : Nat) : ((byteN v i).toNat : Int) = ((v : Int) / 2 ^ (56 - 8 * i)) % 256 := by
  unfold byteN
  rw [UInt8.toNat_ofNat', Nat.mod_mod_of_dvd _ (by decide)]
  rw [Int.natCast_emod, Int.natCast_ediv]
  congr 2
set_option maxRecDepth 100000 in
set_option maxHeartbeats 6400000 in
theorem lay_any (bb off n c v : Nat) (lb : List UInt8) (w : World) (hk : Blk w bb 5 (bs lb).toArray) (hoff : off + 8 ≤ lb.length) (hn : 8 ≤ n) (hc : n ≤ c) (hv : v < 18446744073709551616) :
    Calls Tryz.prog 81 #[.slice (some ⟨bb, off, none⟩) n c, .int .u64 (v : Int)] w fun e w' => (∃ x, e = .returned x) ∧ Blk w' bb 5 (bs (putN lb off v)).toArray ∧ Kp (fun b => b ≠ bb) w w' := by
  rw [← layB_put lb off v hoff]
  go_enter Tryz.func81, Tryz.ntmps81
  go_wp2
  go_loopw [5] (fun j wr => ∃ i : Nat, i ≤ 8 ∧ j = .int .i64 (i : Int) ∧ Blk wr bb 5 (bs (layB lb off v i)).toArray ∧ Kp (fun b => b ≠ bb) w wr) (fun j _ => 8 - (intOf j).toNat)
  case atStart => exact ⟨0, by omega, rfl, hk, Kp.refl _ _⟩
  case round =>
    obtain ⟨i, hi, rfl, hb, hkk⟩ := hrel
    have hlen := layB_len lb off v i
    have hsucc := layB_succ lb off v i
    have hval := byteN_val v i
    obtain ⟨L, hL⟩ : ∃ L, L = layB lb off v i := ⟨_, rfl⟩
    rw [← hL] at hb hlen hsucc
    by_cases h8 : i < 8
    · have hx : off + i < L.length := by omega
      have hcell : wr.cell? ⟨bb, off + i, none⟩ = some (.int .u8 ((L[off + i]).toNat : Int)) := (hb.cell (off + i)).trans (by rw [List.getElem?_toArray, bs, List.getElem?_map, List.getElem?_eq_getElem hx]; rfl)
      have hfr := hb.frozen (off + i)
      have hnew : ∀ u, u = .int .u8 ((byteN v i).toNat : Int) → Blk (wr.setCell ⟨bb, off + i, none⟩ u) bb 5 (bs (layB lb off v (i + 1))).toArray := fun u hu => by
        rw [hsucc, bs_set, ← hu]
        have := hb.set_ (off + i) u
        simpa using this
      have hkn : ∀ u, Kp (fun b => b ≠ bb) w (wr.setCell ⟨bb, off + i, none⟩ u) := fun u => hkk.setCell (fun _ h => h rfl) _
      have HN := Lib.hid hnew
      have HV := Lib.hid hval
      clear hnew hval hsucc hL hb hlen
      obtain rfl | rfl | rfl | rfl | rfl | rfl | rfl | rfl : i = 0 ∨ i = 1 ∨ i = 2 ∨ i = 3 ∨ i = 4 ∨ i = 5 ∨ i = 6 ∨ i = 7 := by omega
      · simp only [Nat.add_zero] at *
        go_wp2
        go_roundw
        case rel => exact ⟨1, by omega, by go_num, HN.out _ (by rw [HV.out]; congr 1 <;> omega), hkn _⟩
        case measure => simp [intOf]
      · go_wp2
        go_roundw
        case rel => exact ⟨2, by omega, by go_num, HN.out _ (by rw [HV.out]; congr 1 <;> omega), hkn _⟩
        case measure => simp [intOf]
      · go_wp2
        go_roundw
        case rel => exact ⟨3, by omega, by go_num, HN.out _ (by rw [HV.out]; congr 1 <;> omega), hkn _⟩
        case measure => simp [intOf]
      · go_wp2
        go_roundw
        case rel => exact ⟨4, by omega, by go_num, HN.out _ (by rw [HV.out]; congr 1 <;> omega), hkn _⟩
        case measure => simp [intOf]
      · go_wp2
        go_roundw
        case rel => exact ⟨5, by omega, by go_num, HN.out _ (by rw [HV.out]; congr 1 <;> omega), hkn _⟩
        case measure => simp [intOf]
      · go_wp2
        go_roundw
        case rel => exact ⟨6, by omega, by go_num, HN.out _ (by rw [HV.out]; congr 1 <;> omega), hkn _⟩
        case measure => simp [intOf]
      · go_wp2
        go_roundw
        case rel => exact ⟨7, by omega, by go_num, HN.out _ (by rw [HV.out]; congr 1 <;> omega), hkn _⟩
        case measure => simp [intOf]
      · go_wp2
        go_roundw
        case rel => exact ⟨8, by omega, by go_num, HN.out _ (by rw [HV.out]; congr 1 <;> omega), hkn _⟩
        case measure => simp [intOf]
    · obtain rfl : i = 8 := by omega
      subst hL
      go_wp2
      go_end0
      exact ⟨⟨_, rfl⟩, hb, hkk⟩
end Go.Proofs.YtnlhjhpikjmoaaaGreatDoor

namespace Go.Proofs.YtnlhjhpikjmoaaaGreatDoor
open Go.RowKit

theorem beNat_sm (l : List UInt8) (k : Nat) (hk : k < 8) : beNat (l.take k) < 72057594037927936 := by
  have h1 := beNat_lt (l.take k)
  have h2 : (l.take k).length ≤ 7 := by rw [List.length_take]; omega
  have h3 : 256 ^ (l.take k).length ≤ 256 ^ 7 := Nat.pow_le_pow_right (by decide) h2
  have h4 : (256 : Nat) ^ 7 = 72057594037927936 := by decide
  omega
theorem beNat_sm8 (l : List UInt8) : beNat (l.take 8) < 18446744073709551616 := by
  have h1 := beNat_lt (l.take 8)
  have h2 : (l.take 8).length ≤ 8 := by rw [List.length_take]; omega
  have h3 : 256 ^ (l.take 8).length ≤ 256 ^ 8 := Nat.pow_le_pow_right (by decide) h2
  have h4 : (256 : Nat) ^ 8 = 18446744073709551616 := by decide
  omega
set_option maxRecDepth 100000 in
set_option maxHeartbeats 3200000 in
theorem wtake_any (bb off n c : Nat) (lb : List UInt8) (w : World) (hcell : ∀ j (h : j < lb.length), j < 8 → w.cell? ⟨bb, off + j, none⟩ = some (.int .u8 ((lb[j]).toNat : Int))) (hl : 8 ≤ lb.length) (hn : 8 ≤ n) (hc : n ≤ c) :
    Calls Tryz.prog 77 #[.slice (some ⟨bb, off, none⟩) n c] w fun e w' => e = .returned (.int .u64 ((beNat (lb.take 8) : Nat) : Int)) ∧ w' = w := by
  have HC := Lib.hid hcell
  clear hcell
  go_enter Tryz.func77, Tryz.ntmps77
  go_wp2
  go_loop [3, 9] (fun u j => ∃ k : Nat, k ≤ 8 ∧ u = .int .u64 ((beNat (lb.take k) : Nat) : Int) ∧ j = .int .i64 (k : Int)) (fun _ j => 8 - (intOf j).toNat)
  case atStart => exact ⟨0, by omega, rfl, rfl⟩
  case round =>
    obtain ⟨k, hk, rfl, rfl⟩ := hrel
    by_cases hlt : k < 8
    · have hlv : k < lb.length := by omega
      have g3 := HC.out k hlv hlt
      obtain ⟨y, hy⟩ : ∃ y, y = lb[k] := ⟨_, rfl⟩
      rw [← hy] at g3
      have hS := beNat_sm lb k hlt
      obtain ⟨U, hU⟩ : ∃ U, U = beNat (lb.take k) := ⟨_, rfl⟩
      rw [← hU] at hS
      rw [← hU]
      have HO := Lib.hid (or_step U y hS)
      have HY := Lib.hid hy
      have HU := Lib.hid hU
      clear hy hU hS
      go_wp2
      go_round
      case rel =>
        refine ⟨k + 1, by omega, ?_, by go_num⟩
        rw [HO.out, List.take_succ_eq_append_getElem hlv, beNat_snoc, ← HU.out, ← HY.out]
      case measure => simp [intOf]; omega
    · obtain rfl : k = 8 := by omega
      obtain ⟨U, hU⟩ : ∃ U, U = beNat (lb.take 8) := ⟨_, rfl⟩
      rw [← hU]
      have HU := Lib.hid hU
      clear hU
      go_wp2
      go_ret
      exact ⟨by rw [← HU.out]; rfl, rfl⟩
/-- how many sectors a record has -/
def secN (n : Nat) : Nat := (n + 50) / 48
theorem sectors_any (n : Nat) (hn : n ≤ 1000000000) (w : World) : Calls Tryz.prog 58 #[.int .i64 (n : Int)] w fun e w' => e = .returned (.int .i64 (secN n : Int)) ∧ w' = w := by
  have h2 : (3 + (n : Int) + 48 - 1) / 48 = (secN n : Int) := by
    unfold secN
    omega
  have H2 := Lib.hid h2
  clear h2
  go_enter Tryz.func58, Tryz.ntmps58
  go_wp2
  go_ret
  refine ⟨?_, rfl⟩
  show Ending.returned (.int .i64 ((3 + (n : Int) + 48 - 1) / 48)) = _
  rw [H2.out]
end Go.Proofs.YtnlhjhpikjmoaaaGreatDoor
