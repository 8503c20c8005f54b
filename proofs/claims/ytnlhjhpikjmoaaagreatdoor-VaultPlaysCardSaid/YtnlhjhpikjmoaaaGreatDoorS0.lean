/- Contracts: wal.lay, wal.take: a number in eight bytes.
Contracts: wal.take, wal.sectors.
The log in memory. Contracts: (*Log).ring, First, Next, met, ready.
Contracts: (*Log).Next, ready.
Contract: (*Log).took.
Contracts: CopyBytes, Clone, End, ref End, Begins, and bytes of one's own.
Contracts: slices.Clone, CopyBytes over data.
Contracts: slices.Clone, CopyBytes over data; split.pairs. -/
import Derived.Test.YtnlhjhpikjmoaaaGreatDoorDec
import Derived.Test.YtnlhjhpikjmoaaaGreatDoorW4
import Derived.Test.YtnlhjhpikjmoaaaGreatDoorReg
import Derived.Outline
namespace Go.Proofs.YtnlhjhpikjmoaaaGreatDoor
open Go.RowKit
def byteN (v : Nat) (i : Nat) : UInt8 := UInt8.ofNat (v / 2 ^ (56 - 8 * i) % 256)
def layB (lb : List UInt8) (off v n : Nat) : List UInt8 := (List.range n).foldl (fun l i => l.set (off + i) (byteN v i)) lb
theorem layB_succ (lb : List UInt8) (off v n : Nat) : layB lb off v (n + 1) = (layB lb off v n).set (off + n) (byteN v n) := by
  unfold layB
  rw [List.range_succ, List.foldl_append]
  rfl
theorem layB_len (lb : List UInt8) (off v : Nat) : ∀ n, (layB lb off v n).length = lb.length
  | 0 => rfl
  | n + 1 => by rw [layB_succ, List.length_set, layB_len lb off v n]
theorem bs_set (l : List UInt8) (i : Nat) (b : UInt8) : bs (l.set i b) = (bs l).set i (.int .u8 (b.toNat : Int)) := by
  unfold bs
  rw [List.map_set]
theorem byteN_be8 (v i : Nat) (h : i < 8) : (be8 v)[i]? = some (byteN v i) := by
  rw [be8_get v i h]
  unfold byteN
  congr 1
  apply UInt8.toNat_inj.1
  rw [UInt8.toNat_ofNat', UInt8.toNat_ofNat', Nat.mod_mod_of_dvd _ (by decide)]
theorem layB_take (lb : List UInt8) (off v : Nat) : ∀ n, n ≤ 8 → off + n ≤ lb.length → layB lb off v n = lb.take off ++ (be8 v).take n ++ lb.drop (off + n)
  | 0, _, _ => by simp [layB]
  | n + 1, h, hl => by
    have hb : (be8 v).take (n + 1) = (be8 v).take n ++ [byteN v n] := by
      have h1 : n < (be8 v).length := by rw [be8_length]; omega
      have h2 := byteN_be8 v n (by omega)
      rw [List.getElem?_eq_getElem h1] at h2
      rw [List.take_succ_eq_append_getElem h1, Option.some.inj h2]
    have hlen : (lb.take off ++ (be8 v).take n).length = off + n := by
      rw [List.length_append, List.length_take, List.length_take, be8_length]
      omega
    have hd : lb.drop (off + n) = lb[off + n] :: lb.drop (off + n + 1) := List.drop_eq_getElem_cons (by omega)
    rw [layB_succ, layB_take lb off v n (by omega) (by omega), hb, List.set_append_right _ _ (by omega), hlen, Nat.sub_self, hd, List.set_cons_zero]
    simp only [List.append_assoc, List.cons_append, List.nil_append, Nat.add_assoc]
def putN (lb : List UInt8) (off v : Nat) : List UInt8 := lb.take off ++ be8 v ++ lb.drop (off + 8)
theorem layB_put (lb : List UInt8) (off v : Nat) (h : off + 8 ≤ lb.length) : layB lb off v 8 = putN lb off v := by
  rw [layB_take lb off v 8 (Nat.le_refl _) h, show (be8 v).take 8 = be8 v from List.take_of_length_le (by rw [be8_length]; omega)]
  rfl
theorem byteN_val (v i : Nat) : ((byteN v i).toNat : Int) = ((v : Int) / 2 ^ (56 - 8 * i)) % 256 := by
  unfold byteN
  rw [UInt8.toNat_ofNat', Nat.mod_mod_of_dvd _ (by decide)]
  rw [Int.natCast_emod, Int.natCast_ediv]
  congr 2
set_option maxRecDepth 100000 in
set_option maxHeartbeats 6400000 in
theorem lay_any (bb off n c v : Nat) (lb : List UInt8) (w : World) (hk : Blk w bb 5 (bs lb).toArray) (hoff : off + 8 ≤ lb.length) (hn : 8 ≤ n) (hc : n ≤ c) (hv : v < 18446744073709551616) :
    Calls Tryz.prog 81 #[.slice (some ⟨bb, off, none⟩) n c, .int .u64 (v : Int)] w fun e w' => (∃ x, e = .returned x) ∧ Blk w' bb 5 (bs (putN lb off v)).toArray ∧ Kp (fun b => b ≠ bb) w w' := by
  rw [← layB_put lb off v hoff]
  go_enter Tryz.func81, Tryz.ntmps81
  go_wp2
  go_loopw [5] (fun j wr => ∃ i : Nat, i ≤ 8 ∧ j = .int .i64 (i : Int) ∧ Blk wr bb 5 (bs (layB lb off v i)).toArray ∧ Kp (fun b => b ≠ bb) w wr) (fun j _ => 8 - (intOf j).toNat)
  case atStart => exact ⟨0, by omega, rfl, hk, Kp.refl _ _⟩
  case round =>
    obtain ⟨i, hi, rfl, hb, hkk⟩ := hrel
    have hlen := layB_len lb off v i
    have hsucc := layB_succ lb off v i
    have hval := byteN_val v i
    obtain ⟨L, hL⟩ : ∃ L, L = layB lb off v i := ⟨_, rfl⟩
    rw [← hL] at hb hlen hsucc
    by_cases h8 : i < 8
    · have hx : off + i < L.length := by omega
      have hcell : wr.cell? ⟨bb, off + i, none⟩ = some (.int .u8 ((L[off + i]).toNat : Int)) := (hb.cell (off + i)).trans (by rw [List.getElem?_toArray, bs, List.getElem?_map, List.getElem?_eq_getElem hx]; rfl)
      have hfr := hb.frozen (off + i)
      have hnew : ∀ u, u = .int .u8 ((byteN v i).toNat : Int) → Blk (wr.setCell ⟨bb, off + i, none⟩ u) bb 5 (bs (layB lb off v (i + 1))).toArray := fun u hu => by
        rw [hsucc, bs_set, ← hu]
        have := hb.set_ (off + i) u
        simpa using this
      have hkn : ∀ u, Kp (fun b => b ≠ bb) w (wr.setCell ⟨bb, off + i, none⟩ u) := fun u => hkk.setCell (fun _ h => h rfl) _
      have HN := Lib.hid hnew
      have HV := Lib.hid hval
      clear hnew hval hsucc hL hb hlen
      obtain rfl | rfl | rfl | rfl | rfl | rfl | rfl | rfl : i = 0 ∨ i = 1 ∨ i = 2 ∨ i = 3 ∨ i = 4 ∨ i = 5 ∨ i = 6 ∨ i = 7 := by omega
      · simp only [Nat.add_zero] at *
        go_wp2
        go_roundw
        case rel => exact ⟨1, by omega, by go_num, HN.out _ (by rw [HV.out]; congr 1 <;> omega), hkn _⟩
        case measure => simp [intOf]
      · go_wp2
        go_roundw
        case rel => exact ⟨2, by omega, by go_num, HN.out _ (by rw [HV.out]; congr 1 <;> omega), hkn _⟩
        case measure => simp [intOf]
      · go_wp2
        go_roundw
        case rel => exact ⟨3, by omega, by go_num, HN.out _ (by rw [HV.out]; congr 1 <;> omega), hkn _⟩
        case measure => simp [intOf]
      · go_wp2
        go_roundw
        case rel => exact ⟨4, by omega, by go_num, HN.out _ (by rw [HV.out]; congr 1 <;> omega), hkn _⟩
        case measure => simp [intOf]
      · go_wp2
        go_roundw
        case rel => exact ⟨5, by omega, by go_num, HN.out _ (by rw [HV.out]; congr 1 <;> omega), hkn _⟩
        case measure => simp [intOf]
      · go_wp2
        go_roundw
        case rel => exact ⟨6, by omega, by go_num, HN.out _ (by rw [HV.out]; congr 1 <;> omega), hkn _⟩
        case measure => simp [intOf]
      · go_wp2
        go_roundw
        case rel => exact ⟨7, by omega, by go_num, HN.out _ (by rw [HV.out]; congr 1 <;> omega), hkn _⟩
        case measure => simp [intOf]
      · go_wp2
        go_roundw
        case rel => exact ⟨8, by omega, by go_num, HN.out _ (by rw [HV.out]; congr 1 <;> omega), hkn _⟩
        case measure => simp [intOf]
    · obtain rfl : i = 8 := by omega
      subst hL
      go_wp2
      go_end0
      exact ⟨⟨_, rfl⟩, hb, hkk⟩
end Go.Proofs.YtnlhjhpikjmoaaaGreatDoor
namespace Go.Proofs.YtnlhjhpikjmoaaaGreatDoor
open Go.RowKit
theorem beNat_sm (l : List UInt8) (k : Nat) (hk : k < 8) : beNat (l.take k) < 72057594037927936 := by
  have h1 := beNat_lt (l.take k)
  have h2 : (l.take k).length ≤ 7 := by rw [List.length_take]; omega
  have h3 : 256 ^ (l.take k).length ≤ 256 ^ 7 := Nat.pow_le_pow_right (by decide) h2
  have h4 : (256 : Nat) ^ 7 = 72057594037927936 := by decide
  omega
theorem beNat_sm8 (l : List UInt8) : beNat (l.take 8) < 18446744073709551616 := by
  have h1 := beNat_lt (l.take 8)
  have h2 : (l.take 8).length ≤ 8 := by rw [List.length_take]; omega
  have h3 : 256 ^ (l.take 8).length ≤ 256 ^ 8 := Nat.pow_le_pow_right (by decide) h2
  have h4 : (256 : Nat) ^ 8 = 18446744073709551616 := by decide
  omega
set_option maxRecDepth 100000 in
set_option maxHeartbeats 3200000 in
theorem wtake_any (bb off n c : Nat) (lb : List UInt8) (w : World) (hcell : ∀ j (h : j < lb.length), j < 8 → w.cell? ⟨bb, off + j, none⟩ = some (.int .u8 ((lb[j]).toNat : Int))) (hl : 8 ≤ lb.length) (hn : 8 ≤ n) (hc : n ≤ c) :
    Calls Tryz.prog 77 #[.slice (some ⟨bb, off, none⟩) n c] w fun e w' => e = .returned (.int .u64 ((beNat (lb.take 8) : Nat) : Int)) ∧ w' = w := by
  have HC := Lib.hid hcell
  clear hcell
  go_enter Tryz.func77, Tryz.ntmps77
  go_wp2
  go_loop [3, 9] (fun u j => ∃ k : Nat, k ≤ 8 ∧ u = .int .u64 ((beNat (lb.take k) : Nat) : Int) ∧ j = .int .i64 (k : Int)) (fun _ j => 8 - (intOf j).toNat)
  case atStart => exact ⟨0, by omega, rfl, rfl⟩
  case round =>
    obtain ⟨k, hk, rfl, rfl⟩ := hrel
    by_cases hlt : k < 8
    · have hlv : k < lb.length := by omega
      have g3 := HC.out k hlv hlt
      obtain ⟨y, hy⟩ : ∃ y, y = lb[k] := ⟨_, rfl⟩
      rw [← hy] at g3
      have hS := beNat_sm lb k hlt
      obtain ⟨U, hU⟩ : ∃ U, U = beNat (lb.take k) := ⟨_, rfl⟩
      rw [← hU] at hS
      rw [← hU]
      have HO := Lib.hid (or_step U y hS)
      have HY := Lib.hid hy
      have HU := Lib.hid hU
      clear hy hU hS
      go_wp2
      go_round
      case rel =>
        refine ⟨k + 1, by omega, ?_, by go_num⟩
        rw [HO.out, List.take_succ_eq_append_getElem hlv, beNat_snoc, ← HU.out, ← HY.out]
      case measure => simp [intOf]; omega
    · obtain rfl : k = 8 := by omega
      obtain ⟨U, hU⟩ : ∃ U, U = beNat (lb.take 8) := ⟨_, rfl⟩
      rw [← hU]
      have HU := Lib.hid hU
      clear hU
      go_wp2
      go_ret
      exact ⟨by rw [← HU.out]; rfl, rfl⟩
def secN (n : Nat) : Nat := (n + 50) / 48
theorem sectors_any (n : Nat) (hn : n ≤ 1000000000) (w : World) : Calls Tryz.prog 58 #[.int .i64 (n : Int)] w fun e w' => e = .returned (.int .i64 (secN n : Int)) ∧ w' = w := by
  have h2 : (3 + (n : Int) + 48 - 1) / 48 = (secN n : Int) := by
    unfold secN
    omega
  have H2 := Lib.hid h2
  clear h2
  go_enter Tryz.func58, Tryz.ntmps58
  go_wp2
  go_ret
  refine ⟨?_, rfl⟩
  show Ending.returned (.int .i64 ((3 + (n : Int) + 48 - 1) / 48)) = _
  rw [H2.out]
end Go.Proofs.YtnlhjhpikjmoaaaGreatDoor
namespace Go.Proofs.YtnlhjhpikjmoaaaGreatDoor
open Go.RowKit
structure LogD where
  dead : Bool
  turn : Nat
  first : Nat
  recs : List (List UInt8)
  places : List Nat
  end_ : Nat
  used : Nat
  waits : Bool
def rBs : Rel (List UInt8) where
  sz := 1
  wt := 24
  rel ok w cs l := ∃ v, cs = [v] ∧ RB ok w v l
  len := by rintro ok w cs d ⟨v, rfl, _⟩; rfl
  one := by
    rintro ok w cs d ⟨v, rfl, h⟩ u hu
    rw [List.mem_singleton.1 hu]
    exact h.one
  kp := by
    rintro ok w w' cs d hk ⟨v, rfl, h⟩
    exact ⟨v, rfl, h.kp hk⟩
  mono := by
    rintro ok ok' w cs d hm ⟨v, rfl, h⟩
    exact ⟨v, rfl, h.mono (by decide) hm⟩
def rNat : Rel Nat where
  sz := 1
  wt := 8
  rel _ _ cs n := cs = [.int .i64 (n : Int)]
  len := by rintro ok w cs d rfl; rfl
  one := by
    rintro ok w cs d rfl u hu
    rw [List.mem_singleton.1 hu]
    rfl
  kp := fun _ h => h
  mono := fun _ h => h
theorem Tryz.rowBs : RowTy Tryz.prog 44 25 1 24 := rowTy_mk Tryz.underlying44 (by kernel_rfl)
theorem Tryz.rowNat : RowTy Tryz.prog 53 3 1 8 := rowTy_mk Tryz.underlying53 (by kernel_rfl)
def lgCs (gd : Nat) (l : LogD) (vr vp : Value) : Array Value := #[.pointer (some ⟨gd, 0, none⟩), .bool l.dead, .int .u64 (l.turn : Int), .int .u64 (l.first : Int), vr, vp, .int .i64 (l.end_ : Int), .int .i64 (l.used : Int), .bool l.waits]
structure LogD.Ok (l : LogD) : Prop where
  turn : l.turn < 18446744073709551616
  first : l.first + l.recs.length < 18446744073709551616
  recs : ∀ r ∈ l.recs, r.length ≤ 32768
  places : l.places.length = l.recs.length
  placed : ∀ p ∈ l.places, p < 65536
  end_ : l.end_ < 65536
  used : l.used ≤ 65536
def LogR (ft : Nat → Prop) (w : World) (gl gd : Nat) (l : LogD) : Prop :=
  ∃ vr vp, Blk w gl 97 (lgCs gd l vr vp) ∧ OwnL rBs (fun b => ft b ∧ b ≠ gl ∧ some b ≠ vp.ownBlock) 0 25 w vr l.recs ∧ OwnL rNat (fun _ => False) 0 3 w vp l.places ∧
    some gl ≠ vr.ownBlock ∧ some gl ≠ vp.ownBlock ∧ (∀ b, vr.ownBlock = some b → vp.ownBlock ≠ some b) ∧ ft gl ∧ (∀ b, vr.ownBlock = some b → ft b) ∧ (∀ b, vp.ownBlock = some b → ft b) ∧ l.Ok
theorem LogR.kp {ft ok : Nat → Prop} {w w' : World} {gl gd : Nat} {l : LogD} (h : LogR ft w gl gd l) (hk : Kp ok w w') (hok : ∀ b, ft b → ok b) : LogR ft w' gl gd l := by
  obtain ⟨vr, vp, h1, h2, h3, h4, h5, h6, h7, h8, h9, h10⟩ := h
  exact ⟨vr, vp, h1.kp hk (hok _ h7), h2.kp hk (fun b hb => hok b hb.1) (fun b hb => hok b (h8 b hb)), h3.kp hk (fun _ h => h.elim) (fun b hb => hok b (h9 b hb)), h4, h5, h6, h7, h8, h9, h10⟩
theorem LogR.below {ft : Nat → Prop} {w w' : World} {gl gd : Nat} {l : LogD} (h : LogR ft w gl gd l) (hb : Below w.heap.size w w') : LogR ft w' gl gd l := h.kp (.of_below hb (ok := fun _ => True)) fun _ _ => trivial
theorem lg_cells {w : World} {g : Nat} {T : TypeId} {gd : Nat} {l : LogD} {vr vp : Value} (h : Blk w g T (lgCs gd l vr vp)) : w.cell? ⟨g, 0, none⟩ = some (.pointer (some ⟨gd, 0, none⟩)) ∧ w.cell? ⟨g, 1, none⟩ = some (.bool l.dead) ∧ w.cell? ⟨g, 2, none⟩ = some (.int .u64 (l.turn : Int)) ∧ w.cell? ⟨g, 3, none⟩ = some (.int .u64 (l.first : Int)) ∧ w.cell? ⟨g, 4, none⟩ = some vr ∧ w.cell? ⟨g, 5, none⟩ = some vp ∧ w.cell? ⟨g, 6, none⟩ = some (.int .i64 (l.end_ : Int)) ∧ w.cell? ⟨g, 7, none⟩ = some (.int .i64 (l.used : Int)) ∧ w.cell? ⟨g, 8, none⟩ = some (.bool l.waits) :=
  ⟨h.cell 0, h.cell 1, h.cell 2, h.cell 3, h.cell 4, h.cell 5, h.cell 6, h.cell 7, h.cell 8⟩
section
variable {fl fd : Nat → Prop} {gl gd : Nat} {l : LogD} {d : DskD} {w : World}
theorem ring_any (h : LogR fl w gl gd l) (hd : DiskR fd w gd d) : Calls Tryz.prog 70 #[.pointer (some ⟨gl, 0, none⟩)] w fun e w' => e = .returned (.int .i64 ((d.kept.length : Int) - 2)) ∧ w' = w := by
  obtain ⟨vr, vp, hb, _⟩ := h
  obtain ⟨c0, _⟩ := lg_cells hb
  have hn := hd.ok
  have h1 : 1 ≤ d.kept.length := hn.2.1
  have h2 : d.kept.length ≤ 65536 := hn.2.2.1
  clear hn hb
  go_enter Tryz.func70, Tryz.ntmps70
  go_wp2_with fail
  refine (dSize_any hd).mono ?_
  rintro e w1 ⟨rfl, rfl⟩
  go_wp2
  go_ret
  exact ⟨rfl, rfl⟩
theorem first_any (h : LogR fl w gl gd l) : Calls Tryz.prog 52 #[.pointer (some ⟨gl, 0, none⟩)] w fun e w' => e = .returned (.int .u64 (l.first : Int)) ∧ w' = w := by
  obtain ⟨vr, vp, hb, _⟩ := h
  obtain ⟨c0, c1, c2, c3, _⟩ := lg_cells hb
  clear hb
  go_enter Tryz.func52, Tryz.ntmps52
  go_wp2
  go_ret
  exact ⟨rfl, rfl⟩
theorem met_any (h : LogR fl w gl gd l) (k : Int) : Calls Tryz.prog 61 #[.pointer (some ⟨gl, 0, none⟩), .int .i64 k] w fun e w' => e = .returned (.int .i64 k) ∧ LogR fl w' gl gd { l with dead := l.dead || k == 3 } ∧ Kp (fun b => b ≠ gl) w w' := by
  obtain ⟨vr, vp, hb, h2, h3, h4, h5, h6, h7, h8, h9, h10⟩ := h
  obtain ⟨c0, c1, _⟩ := lg_cells hb
  have fg := fun i => hb.frozen i
  have hfin : ∀ u, u = (l.dead || k == 3) → LogR fl (w.setCell ⟨gl, 1, none⟩ (.bool u)) gl gd { l with dead := l.dead || k == 3 } := fun u hu => by
    subst hu
    have hkp : Kp (fun b => b ≠ gl) w (w.setCell ⟨gl, 1, none⟩ (.bool (l.dead || k == 3))) := (Kp.refl _ _).setCell (fun _ h => h rfl) _
    exact ⟨vr, vp, hb.set_ 1 (.bool (l.dead || k == 3)), h2.kp hkp (fun b hb => hb.2.1) (fun b hb e => h4 (by rw [hb, e])), h3.kp hkp (fun _ h => h.elim) (fun b hb e => h5 (by rw [hb, e])), h4, h5, h6, h7, h8, h9, ⟨h10.turn, h10.first, h10.recs, h10.places, h10.placed, h10.end_, h10.used⟩⟩
  have hkp : ∀ u, Kp (fun b => b ≠ gl) w (w.setCell ⟨gl, 1, none⟩ u) := fun u => (Kp.refl _ _).setCell (fun _ h => h rfl) _
  have HF := Lib.hid hfin
  clear hfin hb h2 h3 h8 h9 h6
  cases hdd : l.dead <;> rw [hdd] at c1
  · go_enter Tryz.func61, Tryz.ntmps61
    go_wp2_with fail
    refine (errIs_any k 3 _).mono ?_
    rintro e w1 ⟨rfl, rfl⟩
    go_wp2
    go_ret
    have := HF.out (k == 3) (by rw [hdd]; rfl)
    rw [hdd] at this
    exact ⟨rfl, this, hkp _⟩
  · go_enter Tryz.func61, Tryz.ntmps61
    go_wp2
    go_ret
    have := HF.out true (by rw [hdd]; rfl)
    rw [hdd] at this
    exact ⟨rfl, this, hkp _⟩
end
end Go.Proofs.YtnlhjhpikjmoaaaGreatDoor
namespace Go.Proofs.YtnlhjhpikjmoaaaGreatDoor
open Go.RowKit
section
variable {fl fd : Nat → Prop} {gl gd : Nat} {l : LogD} {d : DskD} {w : World}
set_option maxRecDepth 100000 in
theorem next_any (h : LogR fl w gl gd l) : Calls Tryz.prog 44 #[.pointer (some ⟨gl, 0, none⟩)] w fun e w' => e = .returned (.int .u64 ((l.first + l.recs.length : Nat) : Int)) ∧ Below w.heap.size w w' := by
  obtain ⟨vr, vp, hb, h2, h3, h4, h5, h6, h7, h8, h9, h10⟩ := h
  obtain ⟨A, c, rfl, _⟩ := h2.form
  obtain ⟨c0, c1, c2, c3, c4, _⟩ := lg_cells hb
  have l3 := Later.cell c3
  have l4 := Later.cell c4
  have hf := h10.first
  have HS : Hid (IntKind.u64.wrap ((l.first : Int) + IntKind.u64.wrap (l.recs.length : Int)) = ((l.first + l.recs.length : Nat) : Int)) := Lib.hid (by
    rw [IntKind.wrap_u64, IntKind.wrap_u64]
    omega)
  clear c0 c1 c2 c3 c4 hb h2 h3 h6 h8 h9
  go_enter Tryz.func44, Tryz.ntmps44
  go_upto_region 3 with fail
  refine wp_seqL [] (by as_aux_lemma => kernel_rfl) (by as_aux_lemma => kernel_rfl) fun w2 hb2 => ?_
  refine seqL_pre 12 (by kernel_rfl) ?_
  simp only [List.take_succ_cons, List.take_zero, List.drop_succ_cons, List.drop_zero]
  repeat (go_big_quiet_step (fail))
  refine wpQuiet_nil ?_
  refine seqL_nil ?_
  clear l3 l4
  go_wp2
  go_ret
  exact ⟨by rw [Int.natCast_add]; rfl, hb2⟩
def rdy (l : LogD) (d : DskD) : LogD := if (l.dead || d.down) = true then { l with dead := true } else l
def rdyE (l : LogD) (d : DskD) : Int := if (l.dead || d.down) = true then 3 else 0
theorem ready_any (h : LogR fl w gl gd l) (hd : DiskR fd w gd d) : Calls Tryz.prog 57 #[.pointer (some ⟨gl, 0, none⟩)] w fun e w' => e = .returned (.int .i64 (rdyE l d)) ∧ LogR fl w' gl gd (rdy l d) ∧ Kp (fun b => b ≠ gl) w w' := by
  have hR := h
  obtain ⟨vr, vp, hb, _⟩ := h
  obtain ⟨c0, c1, _⟩ := lg_cells hb
  have hfl : (l.dead || d.down) = false → l.dead = false ∧ d.down = false := fun h => by
    cases h1 : l.dead <;> cases h2 : d.down <;> simp [h1, h2] at h ⊢
  have hm : ({ l with dead := l.dead || (3 : Int) == 3 } : LogD) = { l with dead := true } := by
    cases l
    simp
  clear hb
  cases hdd : l.dead <;> rw [hdd] at c1
  · cases hdn : d.down
    · have e1 : rdy l d = l := by unfold rdy; rw [hdd, hdn]; rfl
      have e2 : rdyE l d = 0 := by unfold rdyE; rw [hdd, hdn]; rfl
      rw [e1, e2]
      have HD := Lib.hid (dDown_any hd)
      rw [hdn] at HD
      clear e1 e2
      go_enter Tryz.func57, Tryz.ntmps57
      go_wp2_with fail
      refine HD.out.mono ?_
      rintro e w1 ⟨rfl, rfl⟩
      go_wp2
      go_ret
      exact ⟨rfl, hR, Kp.refl _ _⟩
    · have e1 : rdy l d = { l with dead := true } := by unfold rdy; rw [hdd, hdn]; rfl
      have e2 : rdyE l d = 3 := by unfold rdyE; rw [hdd, hdn]; rfl
      rw [e1, e2]
      have HD := Lib.hid (dDown_any hd)
      rw [hdn] at HD
      have HM := Lib.hid (met_any hR 3)
      rw [hm] at HM
      clear e1 e2 hm
      go_enter Tryz.func57, Tryz.ntmps57
      go_wp2_with fail
      refine HD.out.mono ?_
      rintro e w1 ⟨rfl, rfl⟩
      go_wp2_with fail
      refine HM.out.mono ?_
      rintro e w2 ⟨rfl, hR2, hK2⟩
      go_wp2
      go_ret
      exact ⟨rfl, hR2, hK2⟩
  · have e1 : rdy l d = { l with dead := true } := by unfold rdy; rw [hdd]; rfl
    have e2 : rdyE l d = 3 := by unfold rdyE; rw [hdd]; rfl
    rw [e1, e2]
    have HM := Lib.hid (met_any hR 3)
    rw [hm] at HM
    clear e1 e2 hm
    go_enter Tryz.func57, Tryz.ntmps57
    go_wp2_with fail
    refine HM.out.mono ?_
    rintro e w2 ⟨rfl, hR2, hK2⟩
    go_wp2
    go_ret
    exact ⟨rfl, hR2, hK2⟩
end
end Go.Proofs.YtnlhjhpikjmoaaaGreatDoor
namespace Go.Proofs.YtnlhjhpikjmoaaaGreatDoor
open Go.RowKit
theorem OwnL.monoW {α : Type} {E : Rel α} {okd okd' : Nat → Prop} {base : Nat} {T : TypeId} {w : World} {v : Value} {l : List α} (h : OwnL E okd base T w v l) (hm : ∀ b, okd b → b < w.heap.size → okd' b) : OwnL E okd' base T w v l := by
  obtain ⟨css, ho, hch⟩ := h
  exact ⟨css, ho, hch.mono fun b hb hlt => ⟨hm b hb.1 hlt, hb.2⟩⟩
def took (l : LogD) (b : List UInt8) (ring : Nat) : LogD := { l with recs := l.recs ++ [b], places := l.places ++ [l.end_], end_ := (l.end_ + secN b.length) % ring, used := l.used + secN b.length }
set_option maxRecDepth 100000 in
set_option maxHeartbeats 6400000 in
theorem took_any {fl fd okb : Nat → Prop} {gl gd : Nat} {l : LogD} {d : DskD} {w : World} (h : LogR fl w gl gd l) (hd : DiskR fd w gd d) (hdis : ∀ b, fd b → ¬ fl b) (vb : Value) (b : List UInt8) (hb : RB okb w vb b) (hbf : ∀ x, okb x → ¬ fl x) (hlen : b.length ≤ 32768) (hring : 3 ≤ d.kept.length) (hfit : l.used + secN b.length ≤ d.kept.length - 2) (hfst : l.first + l.recs.length + 1 < 18446744073709551616) (hn : l.recs.length ≤ 1000000) :
    Calls Tryz.prog 79 #[.pointer (some ⟨gl, 0, none⟩), vb] w fun e w' => (∃ x, e = .returned x) ∧ LogR (fun x => fl x ∨ okb x ∨ w.heap.size ≤ x) w' gl gd (took l b (d.kept.length - 2)) ∧ Kp (fun x => ¬ fl x) w w' := by
  have hR := h
  obtain ⟨vr, vp, h1, h2, h3, h4, h5, h6, h7, h8, h9, h10⟩ := h
  obtain ⟨c0, c1, c2, c3, c4, c5, c6, c7, c8⟩ := lg_cells h1
  obtain ⟨A, c, rfl, hc, _⟩ := hb.form
  have fg := fun i => h1.frozen i
  have h2' : OwnL rBs (fun x => (fl x ∨ okb x) ∧ x ≠ gl ∧ some x ≠ vp.ownBlock) 0 25 w vr l.recs := by
    obtain ⟨css, ho, hch⟩ := h2
    exact ⟨css, ho, hch.mono fun x hx _ => ⟨⟨.inl hx.1.1, hx.1.2⟩, hx.2⟩⟩
  have hbo : RB (fun x => ((fl x ∨ okb x) ∧ x ≠ gl ∧ some x ≠ vp.ownBlock) ∧ some x ≠ vr.ownBlock) w (.slice A b.length c) b := hb.mono (by decide) fun x hx _ => ⟨⟨.inr hx, fun e => hbf x hx (e ▸ h7), fun e => hbf x hx (h9 x e.symm)⟩, fun e => hbf x hx (h8 x e.symm)⟩
  have HF := Lib.hid hfit
  go_enter Tryz.func79, Tryz.ntmps79
  go_wp2_with fail
  refine (sectors_any b.length (by omega) _).mono ?_
  rintro e w1 ⟨rfl, rfl⟩
  go_upto_region 2 with (at_builtin; go_loud (refine wp_app1 (E := rBs) (okd := fun x => (fl x ∨ okb x) ∧ x ≠ gl ∧ some x ≠ vp.ownBlock) Tryz.rowBs (by decide) rfl _ _ rfl vr l.recs w1 #[.slice A b.length c] b rfl h2' rfl ⟨_, rfl, hbo⟩ (by show (l.recs.length + 1) * 24 ≤ _; omega) (by omega) (Nat.zero_le _) ?_); intro v' w5 hown5 hk5 hv5; obtain ⟨A', c', rfl, _⟩ := hown5.form; have kg5 := h1.kp hk5 h4; have fg5 := fun i => kg5.frozen i; obtain ⟨b0, b1, b2, b3, b4, b5, b6, b7, b8⟩ := lg_cells kg5)
  have hz5 : w1.heap.size ≤ w5.heap.size := hk5.size
  have hgl : gl < w1.heap.size := h1.lt
  have hle : (l.recs ++ [b]).length = l.recs.length + 1 := by simp
  rw [hle] at hown5 hv5
  obtain ⟨nn, hnn⟩ : ∃ nn, nn = l.recs.length + 1 := ⟨_, rfl⟩
  rw [← hnn] at hown5 hv5 ⊢
  have HNN := Lib.hid hnn
  clear hnn hle
  have hng : (Value.slice A' nn c').ownBlock ≠ some gl := by
    rcases hv5 with e | e
    · rw [e]; exact fun e => h4 e.symm
    · rw [e]; intro e; have := Option.some.inj e; omega
  have hnp : ∀ x, (Value.slice A' nn c').ownBlock = some x → vp.ownBlock ≠ some x := by
    intro x hx
    rcases hv5 with e | e
    · rw [e] at hx; exact h6 x hx
    · rw [e] at hx
      have := Option.some.inj hx
      intro e2
      have := (h3.lt x e2).2
      omega
  have hkp6 : Kp (fun x => x ≠ gl) w5 (w5.setCell ⟨gl, 4, none⟩ (.slice A' nn c')) := (Kp.refl _ _).setCell (fun _ h => h rfl) _
  have kg6 : Blk (w5.setCell ⟨gl, 4, none⟩ (.slice A' nn c')) gl 97 (lgCs gd { l with recs := l.recs ++ [b] } (.slice A' nn c') vp) := kg5.set_ 4 (.slice A' nn c')
  have ho6 := hown5.kp hkp6 (fun x hx => hx.2.1) (fun x hx e => hng (by rw [hx, e]))
  have hp6 : OwnL rNat (fun _ => False) 0 3 (w5.setCell ⟨gl, 4, none⟩ (.slice A' nn c')) vp l.places := (h3.kp hk5 (fun _ h => h.elim) (fun x hx e => h6 x (by rw [← e]) hx)).kp hkp6 (fun _ h => h.elim) (fun x hx e => h5 (by rw [hx, e]))
  have hK6 : Kp (fun x => ¬ fl x) w1 (w5.setCell ⟨gl, 4, none⟩ (.slice A' nn c')) := (hk5.mono fun x hx e => hx (h8 x e.symm)).trans (hkp6.mono fun x hx e => hx (e ▸ h7))
  refine name_world (fun w6 => Blk w6 gl 97 (lgCs gd { l with recs := l.recs ++ [b] } (.slice A' nn c') vp) ∧ OwnL rBs (fun x => (fl x ∨ okb x) ∧ x ≠ gl ∧ some x ≠ vp.ownBlock) 0 25 w6 (.slice A' nn c') (l.recs ++ [b]) ∧ OwnL rNat (fun _ => False) 0 3 w6 vp l.places ∧ Kp (fun x => ¬ fl x) w1 w6) ⟨kg6, ho6, hp6, hK6⟩ ?_
  clear kg6 ho6 hp6 hK6 hkp6 b0 b1 b2 b3 b4 b5 b6 b7 b8 fg5 kg5 hown5 hk5 c0 c1 c2 c3 c4 c5 c6 c7 c8 fg h2 h2' hbo
  rintro w6 ⟨kg6, ho6, hp6, hK6⟩
  obtain ⟨c0, c1, c2, c3, c4, c5, c6, c7, c8⟩ := lg_cells kg6
  simp only at c6 c7
  have p5 := Later.cell c5
  have p6 := Later.cell c6
  clear c0 c1 c2 c3 c4 c5 c6 c7 c8
  have hpl : l.places.length = l.recs.length := h10.places
  refine wp_seqB (fun x => x = gl ∨ some x = vp.ownBlock) 10 [9, 10, 13] (by as_aux_lemma => kernel_rfl) (by as_aux_lemma => kernel_rfl) fun w7 hb7 => ?_
  refine seqB_pre 4 (by kernel_rfl) ?_
  simp only [List.take_succ_cons, List.take_zero, List.drop_succ_cons, List.drop_zero]
  repeat (go_big_quiet_step (fail))
  refine wpQuiet_nil ?_
  refine seqB_pre0 1 (by kernel_rfl) (by kernel_rfl) ?_
  simp only [List.take_succ_cons, List.take_zero, List.drop_succ_cons, List.drop_zero]
  repeat (go_big_quiet_step (fail))
  refine wpQuiet_nil ?_
  refine seqB_pre 3 (by kernel_rfl) ?_
  simp only [List.take_succ_cons, List.take_zero, List.drop_succ_cons, List.drop_zero]
  repeat (go_big_quiet_step (fail))
  refine wpQuiet_nil ?_
  refine seqB_pre0 1 (by kernel_rfl) (by kernel_rfl) ?_
  simp only [List.take_succ_cons, List.take_zero, List.drop_succ_cons, List.drop_zero]
  repeat (go_big_quiet_step (fail))
  refine wpQuiet_nil ?_
  refine seqB_wild0 hb7 rfl rfl fun K hK => ?_
  unfold Gives
  go_simp
  have hal : Below w7.heap.size w7 (w7.alloc (.cells #[.int .i64 (l.end_ : Int)] 3)) := (Below.refl _ _).alloc (Nat.le_refl _) _
  refine hK _ _ hal fun hb8 => ?_
  clear hK
  clear K
  simp only [Act.put, List.setIfInBounds_toArray, List.set_cons_succ, List.set_cons_zero]
  refine seqB_wild (Kp.of_below hb8) rfl rfl fun K hK => ?_
  refine gives_app0' (E := rNat) Tryz.rowNat (by decide) _ _ rfl vp l.places _ rfl (hp6.below hb8) (some ⟨w7.heap.size, 0, none⟩) 1 [l.end_] [[.int .i64 (l.end_ : Int)]] rfl (show Rd _ 1 _ _ _ by simpa using Rd.new w7 3 1 1 #[.int .i64 (l.end_ : Int)] rfl) (Chunks.single (E := rNat) rfl) ?_ ?_ (Nat.zero_le _) fun v' w9 hown9 hk9 hloc9 => ?_
  · show (l.places.length + 1) * 8 ≤ _
    omega
  · show l.places.length + 1 ≤ _
    omega
  have hkk9 : Kp (fun x => ¬ (x = gl ∨ some x = vp.ownBlock)) (w7.alloc (.cells #[.int .i64 (l.end_ : Int)] 3)) w9 := hk9.mono fun x hx e => hx (.inr e)
  refine hK _ _ (hkk9) fun hK9 => ?_
  clear hK
  clear K
  simp only [Act.put, List.setIfInBounds_toArray, List.set_cons_succ, List.set_cons_zero]
  refine seqB_pre 2 (by kernel_rfl) ?_
  simp only [List.take_succ_cons, List.take_zero, List.drop_succ_cons, List.drop_zero]
  repeat (go_big_quiet_step (fail))
  refine wpQuiet_nil ?_
  have kg9 := (kg6.below hb8 kg6.lt).kp hk9 h5
  have fg9 := fun i => kg9.frozen i
  have c59 : w9.cell? ⟨gl, 5, none⟩ = some vp := kg9.cell 5
  obtain ⟨A9, c9, rfl, _⟩ := hown9.form
  obtain ⟨mm, hmm⟩ : ∃ mm, mm = (l.places ++ [l.end_]).length := ⟨_, rfl⟩
  rw [← hmm] at hown9 hloc9 ⊢
  have HMM := Lib.hid hmm
  clear hmm
  refine seqB_wild hK9 rfl rfl fun K hK => ?_
  unfold Gives
  go_simp
  have hkp : Kp (fun x => ¬ (x = gl ∨ some x = vp.ownBlock)) w9 (w9.setCell ⟨gl, 5, none⟩ (.slice A9 mm c9)) := (Kp.refl _ _).setCell (fun _ h => h (.inl rfl)) _
  refine hK _ _ hkp fun hK10 => ?_
  clear hK
  clear K
  simp only [Act.put, List.setIfInBounds_toArray, List.set_cons_succ, List.set_cons_zero]
  refine seqB_nil ?_
  have hgl6 : gl < w6.heap.size := kg6.lt
  have hz7 : w6.heap.size ≤ w7.heap.size := hb7.size
  have hloc : (Value.slice A9 mm c9).ownBlock = vp.ownBlock ∨ (Value.slice A9 mm c9).ownBlock = some (w7.heap.size + 1) := by simpa using hloc9
  have hng9 : (Value.slice A9 mm c9).ownBlock ≠ some gl := by
    rcases hloc with e | e
    · rw [e]; exact fun e => h5 e.symm
    · rw [e]; intro e; have := Option.some.inj e; omega
  have hnp9 : ∀ x, (Value.slice A' nn c').ownBlock = some x → (Value.slice A9 mm c9).ownBlock ≠ some x := by
    intro x hx
    rcases hloc with e | e
    · rw [e]; exact hnp x hx
    · rw [e]
      have := (ho6.lt x hx).2
      intro e2
      have := Option.some.inj e2
      omega
  have kg10 : Blk (w9.setCell ⟨gl, 5, none⟩ (.slice A9 mm c9)) gl 97 (lgCs gd { l with recs := l.recs ++ [b], places := l.places ++ [l.end_] } (.slice A' nn c') (.slice A9 mm c9)) := kg9.set_ 5 (.slice A9 mm c9)
  have ho10 : OwnL rBs (fun x => (fl x ∨ okb x) ∧ x ≠ gl ∧ some x ≠ (Value.slice A9 mm c9).ownBlock) 0 25 (w9.setCell ⟨gl, 5, none⟩ (.slice A9 mm c9)) (.slice A' nn c') (l.recs ++ [b]) := by
    refine OwnL.monoW ((OwnL.monoW (okd' := fun x => ((fl x ∨ okb x) ∧ x ≠ gl ∧ some x ≠ (Value.slice A9 mm c9).ownBlock) ∧ some x ≠ vp.ownBlock) ho6 fun x hx hlt => ⟨⟨hx.1, hx.2.1, fun e => ?_⟩, hx.2.2⟩).kp hK10 (fun x hx e => e.elim hx.1.2.1 hx.2) (fun x hx e => e.elim (fun e => hng (by rw [hx, e])) fun e => hnp x hx e.symm)) fun x hx _ => hx.1
    rcases hloc with e2 | e2
    · exact hx.2.2 (e.trans e2)
    · have := Option.some.inj (e.trans e2)
      omega
  have hp10 : OwnL rNat (fun _ => False) 0 3 (w9.setCell ⟨gl, 5, none⟩ (.slice A9 mm c9)) (.slice A9 mm c9) (l.places ++ [l.end_]) := hown9.kp (ok := fun x => x ≠ gl) ((Kp.refl _ _).setCell (fun _ h => h rfl) _) (fun _ h => h.elim) fun x hx e => hng9 (by rw [hx, e])
  have hKf : Kp (fun x => ¬ fl x) w1 (w9.setCell ⟨gl, 5, none⟩ (.slice A9 mm c9)) := hK6.trans (hK10.mono fun x hx e => e.elim (fun e => hx (e ▸ h7)) fun e => hx (h9 x e.symm))
  have hsz6 : w1.heap.size ≤ w6.heap.size := hK6.size
  have hL10 : LogR (fun x => fl x ∨ okb x ∨ w1.heap.size ≤ x) (w9.setCell ⟨gl, 5, none⟩ (.slice A9 mm c9)) gl gd { l with recs := l.recs ++ [b], places := l.places ++ [l.end_] } := by
    refine ⟨.slice A' nn c', .slice A9 mm c9, kg10, ho10.monoW fun x hx _ => ⟨hx.1.elim .inl fun h => .inr (.inl h), hx.2⟩, hp10, fun e => hng e.symm, fun e => hng9 e.symm, hnp9, .inl h7, fun x hx => ?_, fun x hx => ?_, ⟨h10.turn, ?_, ?_, ?_, ?_, h10.end_, h10.used⟩⟩
    · rcases hv5 with e | e
      · exact .inl (h8 x (by rw [← e]; exact hx))
      · rw [e] at hx; have := Option.some.inj hx; exact .inr (.inr (by omega))
    · rcases hloc with e | e
      · exact .inl (h9 x (by rw [← e]; exact hx))
      · rw [e] at hx; have := Option.some.inj hx; exact .inr (.inr (by omega))
    · show l.first + (l.recs ++ [b]).length < _
      simp
      omega
    · intro r hr
      rcases List.mem_append.1 hr with hr | hr
      · exact h10.recs r hr
      · rw [List.mem_singleton.1 hr]; exact hlen
    · show (l.places ++ [l.end_]).length = (l.recs ++ [b]).length
      simp [hpl]
    · intro q hq
      rcases List.mem_append.1 hq with hq | hq
      · exact h10.placed q hq
      · rw [List.mem_singleton.1 hq]; exact h10.end_
  have HKf := Lib.hid hKf
  have HL10 := Lib.hid hL10
  clear hKf hL10 hp10 ho10 kg10 hnp9 hng9 hloc hK10 hkp c59 fg9 kg9 hkk9 hown9 hloc9 hk9 hK9 hb8 hal p5 p6 kg6 ho6 hp6 hK6 hnp hng hv5
  go_upto_region 3 with fail
  refine name_world (fun w10 => LogR (fun x => fl x ∨ okb x ∨ w1.heap.size ≤ x) w10 gl gd { l with recs := l.recs ++ [b], places := l.places ++ [l.end_] } ∧ Kp (fun x => ¬ fl x) w1 w10) ⟨HL10.out, HKf.out⟩ ?_
  clear HL10 HKf
  rintro w10 ⟨hL10, hK10⟩
  have hd10 := hd.kp hK10 fun x hx => hdis x hx
  obtain ⟨R, hRe⟩ : ∃ R : Nat, R = d.kept.length - 2 := ⟨_, rfl⟩
  have hRi : (d.kept.length : Int) - 2 = (R : Int) := by omega
  have hR1 : 1 ≤ R := by omega
  have hR2 : R ≤ 65534 := by have := hd.ok.2.2.1; omega
  have hLL := hL10
  obtain ⟨vr2, vp2, g1, g2, g3, g4, g5, g6, g7, g8, g9, g10⟩ := hLL
  obtain ⟨c0, c1, c2, c3, c4, c5, c6, c7, c8⟩ := lg_cells g1
  simp only at c6 c7
  have q6 := Later.cell c6
  have hend := h10.end_
  have hsec : secN b.length ≤ 65536 := by unfold secN; omega
  obtain ⟨S, hS⟩ : ∃ S, S = secN b.length := ⟨_, rfl⟩
  rw [← hS] at hsec ⊢
  have r0 : ((R : Int) == 0) = false := by simpa using (show ¬ (R : Int) = 0 by omega)
  have r0' : decide ((R : Int) = 0) = false := decide_eq_false (by omega)
  clear c0 c1 c2 c3 c4 c5 c6 c7 c8
  refine wp_seqB (fun x => x = gl) 12 [8, 12] (by as_aux_lemma => kernel_rfl) (by as_aux_lemma => kernel_rfl) fun w11 hb11 => ?_
  refine seqB_pre 4 (by kernel_rfl) ?_
  simp only [List.take_succ_cons, List.take_zero, List.drop_succ_cons, List.drop_zero]
  repeat (go_big_quiet_step (fail))
  refine wpQuiet_nil ?_
  refine seqB_pre0 1 (by kernel_rfl) (by kernel_rfl) ?_
  simp only [List.take_succ_cons, List.take_zero, List.drop_succ_cons, List.drop_zero]
  repeat (go_big_quiet_step (fail))
  refine wpQuiet_nil ?_
  refine seqB_pre 3 (by kernel_rfl) ?_
  simp only [List.take_succ_cons, List.take_zero, List.drop_succ_cons, List.drop_zero]
  repeat (go_big_quiet_step (fail))
  refine wpQuiet_nil ?_
  refine seqB_wild0 hb11 rfl rfl fun K hK => ?_
  unfold Gives
  go_simp
  refine (ring_any (hL10.below hb11) (hd10.below hb11)).mono ?_
  rw [hRi]
  rintro e w12 ⟨rfl, rfl⟩
  refine ⟨_, rfl, hK _ _ ((Below.refl _ _)) fun hb12 => ?_⟩
  clear hK
  clear K
  simp only [Act.put, List.setIfInBounds_toArray, List.set_cons_succ, List.set_cons_zero]
  refine seqB_pre 3 (by kernel_rfl) ?_
  simp only [List.take_succ_cons, List.take_zero, List.drop_succ_cons, List.drop_zero]
  repeat (go_big_quiet_step (fail))
  refine wpQuiet_nil ?_
  have k12 := g1.below hb12 g1.lt
  have f12 := fun i => k12.frozen i
  have c612 : w12.cell? ⟨gl, 6, none⟩ = some (.int .i64 (l.end_ : Int)) := k12.cell 6
  refine seqB_wild (Kp.of_below hb12) rfl rfl fun K hK => ?_
  unfold Gives
  go_simp
  have hkp : ∀ u, Kp (fun x => ¬ x = gl) w12 (w12.setCell ⟨gl, 6, none⟩ u) := fun u => (Kp.refl _ _).setCell (fun _ h => h rfl) _
  refine hK _ _ (hkp _) fun hK13 => ?_
  clear hK
  clear K
  simp only [Act.put, List.setIfInBounds_toArray, List.set_cons_succ, List.set_cons_zero]
  refine seqB_nil ?_
  have c712 : w12.cell? ⟨gl, 7, none⟩ = some (.int .i64 (l.used : Int)) := k12.cell 7
  have hL12 := hL10.below hb12
  have hfin : ∀ u v, u = .int .i64 (((l.end_ + secN b.length) % (d.kept.length - 2) : Nat) : Int) → v = .int .i64 ((l.used + secN b.length : Nat) : Int) → LogR (fun x => fl x ∨ okb x ∨ w1.heap.size ≤ x) ((w12.setCell ⟨gl, 6, none⟩ u).setCell ⟨gl, 7, none⟩ v) gl gd (took l b (d.kept.length - 2)) ∧ Kp (fun x => ¬ fl x) w1 ((w12.setCell ⟨gl, 6, none⟩ u).setCell ⟨gl, 7, none⟩ v) := by
    intro u v hu hv
    have hk2 : Kp (fun x => x ≠ gl) w12 ((w12.setCell ⟨gl, 6, none⟩ u).setCell ⟨gl, 7, none⟩ v) := ((Kp.refl _ _).setCell (fun _ h => h rfl) _).setCell (fun _ h => h rfl) _
    refine ⟨⟨vr2, vp2, ?_, (g2.below hb12).kp hk2 (fun x hx => hx.2.1) (fun x hx e => g4 (by rw [hx, e])), (g3.below hb12).kp hk2 (fun _ h => h.elim) (fun x hx e => g5 (by rw [hx, e])), g4, g5, g6, g7, g8, g9, ⟨g10.turn, g10.first, g10.recs, g10.places, g10.placed, ?_, ?_⟩⟩, ?_⟩
    · have := (k12.set_ 6 u).set_ 7 v
      rw [hu, hv] at this ⊢
      exact this
    · show (l.end_ + secN b.length) % (d.kept.length - 2) < 65536
      have := Nat.mod_lt (l.end_ + secN b.length) (show 0 < d.kept.length - 2 by omega)
      omega
    · show l.used + secN b.length ≤ 65536
      have := HF.out
      omega
    · exact (hK10.trans (.of_below hb12)).trans (hk2.mono fun x hx e => hx (e ▸ h7))
  have HFIN := Lib.hid hfin
  clear hfin
  go_wp2
  go_end0
  refine ⟨⟨_, rfl⟩, HFIN.out _ _ ?_ ?_⟩
  · rw [Int.natCast_emod, Int.natCast_add]
  · rw [Int.natCast_add]
end Go.Proofs.YtnlhjhpikjmoaaaGreatDoor
namespace Go.Proofs.YtnlhjhpikjmoaaaGreatDoor
open Go.RowKit
set_option maxRecDepth 100000 in
set_option maxHeartbeats 400000 in
theorem copy_any (A : Option Addr) (n c : Nat) (l : List UInt8) (w : World) (hr : Rd w 1 A n (bs l)) (hm : n ≤ 140737488355328) :
    Calls Tryz.prog 26 #[.slice A n c] w fun e w' => (∃ A' c', e = .returned (.slice A' n c') ∧ OwnB w.heap.size w' A' n c' l) ∧ Below w.heap.size w w' := by
  go_enter Tryz.func26, Tryz.ntmps26
  go_wp2_with (at_builtin; refine wp_append_bytes rfl _ _ rfl w.heap.size none 0 0 [] w rfl (OwnB.nil_ _ _) A n c l rfl hr (by omega) (Nat.le_refl _) ?_; intro A' c' w1 hown1 hb1)
  go_ret
  rw [Nat.zero_add, List.nil_append] at hown1
  exact ⟨⟨A', c', by simp, hown1⟩, hb1⟩
theorem own_empty (w : World) (base : Nat) (hb : base ≤ w.heap.size) : OwnB base (w.alloc (.cells #[] 5)) (some ⟨w.heap.size, 0, none⟩) 0 0 [] :=
  World.ownsRow_lit (base := base) (e := 5) (size := 1) w #[] 0 hb (by decide) rfl
set_option maxRecDepth 100000 in
set_option maxHeartbeats 400000 in
theorem clone_any (A : Option Addr) (n c : Nat) (l : List UInt8) (w : World) (hr : Rd w 1 A n (bs l)) (hm : n ≤ 140737488355328) :
    Calls Tryz.prog 74 #[.slice A n c] w fun e w' => (∃ A' c', e = .returned (.slice A' n c') ∧ OwnB w.heap.size w' A' n c' l) ∧ Below w.heap.size w w' := by
  have hE := fun (x : Option Addr) (w : World) => Lib.run_eql_slice_nil (P := Tryz.prog) w 25 5 x n c 0 0 Tryz.underlying25
  rcases A with _ | ad
  · have hn : n = 0 := by
      rcases Nat.eq_zero_or_pos n with h0 | h0
      · exact h0
      · obtain ⟨_, _, h, _⟩ := hr.2 h0
        cases h
    subst hn
    have hl : l = [] := List.eq_nil_of_length_eq_zero (by have := hr.1; simpa using this)
    subst hl
    go_enter Tryz.func74, Tryz.ntmps74
    go_wp2
    go_ret
    exact ⟨⟨none, 0, rfl, OwnB.nil_ _ _⟩, Below.refl _ _⟩
  · go_enter Tryz.func74, Tryz.ntmps74
    go_wp2_with (at_builtin; refine wp_append_bytes rfl _ _ rfl w.heap.size _ 0 0 [] _ rfl (own_empty w w.heap.size (Nat.le_refl _)) (some ad) n c l rfl (hr.below ((Below.refl _ _).alloc (Nat.le_refl _) _)) (by omega) (by simp) ?_; intro A' c' w1 hown1 hb1)
    go_ret
    rw [Nat.zero_add, List.nil_append] at hown1
    exact ⟨⟨A', c', by simp, hown1⟩, ((Below.refl _ _).alloc (Nat.le_refl _) _).trans hb1⟩
theorem OwnB.set_ {base : Nat} {w : World} {A : Option Addr} {n c k : Nat} {l : List UInt8} (h : OwnB base w A n c l) (hk : k < n) (b : UInt8) :
    ∃ g, A = some ⟨g, 0, none⟩ ∧ base ≤ g ∧ w.cell? ⟨g, k, none⟩ = some (.int .u8 ((l.getD k 0).toNat : Int)) ∧ w.frozen? ⟨g, k, none⟩ = false ∧
      OwnB base (w.setCell ⟨g, k, none⟩ (.int .u8 (b.toNat : Int))) A n c (l.set k b) ∧ Below base w (w.setCell ⟨g, k, none⟩ (.int .u8 (b.toNat : Int))) := by
  have hl := h.len
  rcases h.2 with ⟨_, h0⟩ | ⟨g, cap, cur, hv, hg, hh, r⟩
  · omega
  · simp only [Value.slice.injEq] at hv
    obtain ⟨rfl, _, rfl⟩ := hv
    have hw : w.ownsRow base 5 1 (.slice (some ⟨g, 0, none⟩) n c) n (bs l) := h
    refine ⟨g, rfl, hg, ?_, hw.frozenAt k, ?_, (Below.refl _ _).setCell hg _⟩
    · rw [hw.cellAt k (by omega), bs_get l k (by omega)]
      simp [List.getD, show k < l.length by omega]
    · have := (hw.stored k (.int .u8 (b.toNat : Int))).1
      unfold OwnB
      have e : bs (l.set k b) = (bs l).set k (.int .u8 (b.toNat : Int)) := by simp [bs, List.map_set]
      rw [e]
      exact this
end Go.Proofs.YtnlhjhpikjmoaaaGreatDoor
namespace Go.Proofs.YtnlhjhpikjmoaaaGreatDoor
open Go.RowKit
theorem OwnB.rb {base : Nat} {w : World} {A : Option Addr} {n c : Nat} {l : List UInt8} (h : OwnB base w A n c l) (hm : n ≤ 140737488351232) : RB (fun b => base ≤ b) w (.slice A n c) l := by
  refine RB.mk_ h.rd h.cap hm fun h0 a ha => ?_
  subst ha
  exact (World.ownsRow.lt h _ rfl).1
theorem clone_rb {ok : Nat → Prop} (v : Value) (l : List UInt8) (w : World) (hr : RB ok w v l) :
    Calls Tryz.prog 74 #[v] w fun e w' => (∃ v', e = .returned v' ∧ RB (fun b => w.heap.size ≤ b) w' v' l) ∧ Below w.heap.size w w' := by
  obtain ⟨A, c, rfl, hc, hm, hrd, _⟩ := hr.open_
  exact (clone_any A _ c l w hrd (by omega)).mono fun e w' ⟨⟨A', c', he, ho⟩, hb⟩ => ⟨⟨_, he, ho.rb hm⟩, hb⟩
theorem copy_rb {ok : Nat → Prop} (v : Value) (l : List UInt8) (w : World) (hr : RB ok w v l) :
    Calls Tryz.prog 26 #[v] w fun e w' => (∃ v', e = .returned v' ∧ RB (fun b => w.heap.size ≤ b) w' v' l) ∧ Below w.heap.size w w' := by
  obtain ⟨A, c, rfl, hc, hm, hrd, _⟩ := hr.open_
  exact (copy_any A _ c l w hrd (by omega)).mono fun e w' ⟨⟨A', c', he, ho⟩, hb⟩ => ⟨⟨_, he, ho.rb hm⟩, hb⟩
end Go.Proofs.YtnlhjhpikjmoaaaGreatDoor
