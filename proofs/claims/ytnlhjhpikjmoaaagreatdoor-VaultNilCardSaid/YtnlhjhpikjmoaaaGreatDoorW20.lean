/- A head's sector as bytes. No walk.
Contracts: a nil log.
(*Log).tell: the plain function, its first two ways out.
(*Log).tell: 64 zero bytes made; a number laid keeps the length; a log's blocks narrowed. -/
import Derived.Test.YtnlhjhpikjmoaaaGreatDoorW16
namespace Go.Proofs.YtnlhjhpikjmoaaaGreatDoor
open Go.RowKit

def hdB (t f n s e : Nat) : List UInt8 := be8 t ++ be8 f ++ be8 n ++ be8 s ++ be8 e ++ List.replicate 16 0 ++ be8 t
theorem hdB_put (t f n s e : Nat) : putN (putN (putN (putN (putN (putN (List.replicate 64 0) 0 t) 8 f) 16 n) 24 s) 32 e) 56 t = hdB t f n s e := by
  simp only [putN, hdB, be8]
  rfl
theorem hdB_len (t f n s e : Nat) : (hdB t f n s e).length = 64 := rfl
theorem hdB_read (t f n s e : Nat) (ht : t < 18446744073709551616) (hf : f < 18446744073709551616) (hn : n < 18446744073709551616) (hs : s < 18446744073709551616) (he : e < 18446744073709551616) :
    readH (hdB t f n s e) = ⟨t, f, n, s, e⟩ ∧ rdN (hdB t f n s e) 0 = t ∧ rdN (hdB t f n s e) 56 = t := by
  have k0 : rdN (hdB t f n s e) 0 = t := by
    have : ((hdB t f n s e).drop 0).take 8 = be8 t := rfl
    unfold rdN
    rw [this, beNat_be8 t ht]
  have k1 : rdN (hdB t f n s e) 8 = f := by
    have : ((hdB t f n s e).drop 8).take 8 = be8 f := rfl
    unfold rdN
    rw [this, beNat_be8 f hf]
  have k2 : rdN (hdB t f n s e) 16 = n := by
    have : ((hdB t f n s e).drop 16).take 8 = be8 n := rfl
    unfold rdN
    rw [this, beNat_be8 n hn]
  have k3 : rdN (hdB t f n s e) 24 = s := by
    have : ((hdB t f n s e).drop 24).take 8 = be8 s := rfl
    unfold rdN
    rw [this, beNat_be8 s hs]
  have k4 : rdN (hdB t f n s e) 32 = e := by
    have : ((hdB t f n s e).drop 32).take 8 = be8 e := rfl
    unfold rdN
    rw [this, beNat_be8 e he]
  have k5 : rdN (hdB t f n s e) 56 = t := by
    have : ((hdB t f n s e).drop 56).take 8 = be8 t := rfl
    unfold rdN
    rw [this, beNat_be8 t ht]
  exact ⟨by unfold readH; rw [k0, k1, k2, k3, k4], k0, k5⟩
/-- a record's sectors -/
def secB (turn : Nat) (part : List UInt8) : List UInt8 := be8 turn ++ part ++ List.replicate (48 - part.length) 0 ++ be8 turn
theorem secB_len (turn : Nat) (part : List UInt8) (h : part.length ≤ 48) : (secB turn part).length = 64 := by
  unfold secB
  simp only [List.length_append, be8_length, List.length_replicate]
  omega
/-- a record as bytes: its length in three, and it -/
def recB (b : List UInt8) : List UInt8 := [UInt8.ofNat (b.length / 65536), UInt8.ofNat (b.length / 256), UInt8.ofNat b.length] ++ b
end Go.Proofs.YtnlhjhpikjmoaaaGreatDoor

namespace Go.Proofs.YtnlhjhpikjmoaaaGreatDoor
open Go.RowKit

theorem open_nil (w : World) : Calls Tryz.prog 31 #[.pointer none] w fun e w' => e = .returned (.tuple #[.pointer none, .int .i64 2]) ∧ Below w.heap.size w w' := by
  go_enter Tryz.func31, Tryz.ntmps31
  go_wp2
  go_ret2
  exact ⟨rfl, Below.refl _ _⟩
theorem sync_nil (w : World) : Calls Tryz.prog 62 #[.pointer none] w fun e w' => e = .returned (.int .i64 2) ∧ Below w.heap.size w w' := by
  go_enter Tryz.func62, Tryz.ntmps62
  go_wp2
  go_ret
  exact ⟨rfl, Below.refl _ _⟩
theorem cut_nil (n : Int) (w : World) : Calls Tryz.prog 36 #[.pointer none, .int .u64 n] w fun e w' => e = .returned (.int .i64 2) ∧ Below w.heap.size w w' := by
  go_enter Tryz.func36, Tryz.ntmps36
  go_wp2
  go_ret
  exact ⟨rfl, Below.refl _ _⟩
theorem first_nil (w : World) : Calls Tryz.prog 52 #[.pointer none] w fun e w' => e = .returned (.int .u64 0) ∧ Below w.heap.size w w' := by
  go_enter Tryz.func52, Tryz.ntmps52
  go_wp2
  go_ret
  exact ⟨rfl, Below.refl _ _⟩
theorem next_nil (w : World) : Calls Tryz.prog 44 #[.pointer none] w fun e w' => e = .returned (.int .u64 0) ∧ Below w.heap.size w w' := by
  go_enter Tryz.func44, Tryz.ntmps44
  go_wp2
  go_ret
  exact ⟨rfl, Below.refl _ _⟩
theorem records_nil (w : World) : Calls Tryz.prog 53 #[.pointer none] w fun e w' => e = .returned (.slice none 0 0) ∧ Below w.heap.size w w' := by
  go_enter Tryz.func53, Tryz.ntmps53
  go_wp2
  go_ret
  exact ⟨rfl, Below.refl _ _⟩
theorem errno_load (w : World) (g o : Nat) (v : Value) (hc : w.cell? ⟨g, o, none⟩ = some v) : (loadVar 40 ⟨g, o, none⟩).run Tryz.prog w = .ok v w := by
  have hu : Tryz.prog.underlying 40 = some (.int .i64) := by kernel_rfl
  simp [loadVar, isAgg, underlying, hu, hc, Result.andThen]
theorem append_nil (A : Option Addr) (n c : Nat) (w : World) : Calls Tryz.prog 73 #[.pointer none, .slice A n c] w fun e w' => e = .returned (.int .i64 2) ∧ Below w.heap.size w w' := by
  go_enter Tryz.func73, Tryz.ntmps73
  go_wp2
  have hB : Below w.heap.size w ((w.alloc (.cells #[.pointer none] 69)).alloc (.cells #[.int .i64 2] 40)) := ((Below.refl _ _).alloc (Nat.le_refl _) _).alloc (by simp) _
  have hk : Blk ((w.alloc (.cells #[.pointer none] 69)).alloc (.cells #[.int .i64 2] 40)) (w.heap.size + 1) 40 #[.int .i64 2] := Blk.new_ (by simp)
  have hc := hk.cell 0
  refine bodyPost_ret (v := .int .i64 2) ?_ rfl ⟨rfl, hB⟩
  have hl := errno_load _ _ _ _ hc
  simp [results, Tryz.results73, Act.put, Sem.run_bind, Sem.run_pure, asAddr_ok, hl]
end Go.Proofs.YtnlhjhpikjmoaaaGreatDoor

namespace Go.Proofs.YtnlhjhpikjmoaaaGreatDoor
open Go.RowKit

/-- the head that tell writes -/
def tellB (l : LogD) (n : Nat) : List UInt8 := hdB (l.turn + 1) (l.first + n) (l.first + l.recs.length) (if h : n < l.places.length then l.places[n] else l.end_) l.end_
def secSum (rs : List (List UInt8)) : Nat := (rs.map fun r => secN r.length).sum
/-- what tell makes of a log and its disk, and answers -/
def tellL (l : LogD) (d : DskD) (n : Nat) : LogD × DskD × Int :=
  if d.kept.length < 3 then (l, d, 0) else
  if d.flush.2 ≠ 0 then (l, d.flush.1, d.flush.2) else
  let p := d.flush.1.write (((l.turn + 1) % 2 : Nat) : Int) (tellB l n)
  if p.2 ≠ 0 then (l, p.1, p.2) else
  if p.1.flush.2 ≠ 0 then (l, p.1.flush.1, p.1.flush.2) else
  ({ l with turn := l.turn + 1, first := l.first + n, recs := l.recs.drop n, places := l.places.drop n, used := l.used - secSum (l.recs.take n) }, p.1.flush.1, 0)
set_option maxRecDepth 100000 in
set_option maxHeartbeats 3200000 in
theorem tell_small {fl fd : Nat → Prop} {gl gd : Nat} {l : LogD} {d : DskD} {w : World} (n : Nat) (h : LogR fl w gl gd l) (hd : DiskR fd w gd d) (hs : d.kept.length < 3) :
    Calls Tryz.prog 51 #[.pointer (some ⟨gl, 0, none⟩), .int .i64 (n : Int)] w fun e w' => e = .returned (.int .i64 0) ∧ w' = w := by
  have HR := Lib.hid (ring_any h hd)
  have t1 : decide ((d.kept.length : Int) - 2 < 1) = true := decide_eq_true (by omega)
  have t2 : decide ((d.kept.length : Int) - 2 ≤ 0) = true := decide_eq_true (by omega)
  go_enter Tryz.func51, Tryz.ntmps51
  go_wp2_with fail
  refine HR.out.mono ?_
  rintro e w1 ⟨rfl, rfl⟩
  go_wp2
  go_ret
  exact ⟨rfl, rfl⟩
set_option maxRecDepth 100000 in
set_option maxHeartbeats 3200000 in
theorem tell_flush {fl fd : Nat → Prop} {gl gd : Nat} {l : LogD} {d : DskD} {w : World} (n : Nat) (h : LogR fl w gl gd l) (hd : DiskR fd w gd d) (hs : ¬ d.kept.length < 3) (hf : d.flush.2 ≠ 0) :
    Calls Tryz.prog 51 #[.pointer (some ⟨gl, 0, none⟩), .int .i64 (n : Int)] w fun e w' => e = .returned (.int .i64 d.flush.2) ∧ DiskR fd w' gd d.flush.1 ∧ Kp (fun b => ¬ fd b) w w' := by
  have HR := Lib.hid (ring_any h hd)
  have HF := Lib.hid (dFlush_any hd)
  obtain ⟨vr, vp, hb, _⟩ := h
  have c0 : w.cell? ⟨gl, 0, none⟩ = some (.pointer (some ⟨gd, 0, none⟩)) := hb.cell 0
  have t1 : decide ((d.kept.length : Int) - 2 < 1) = false := decide_eq_false (by omega)
  have t2 : decide ((d.kept.length : Int) - 2 ≤ 0) = false := decide_eq_false (by omega)
  obtain ⟨E, hE⟩ : ∃ E, E = d.flush.2 := ⟨_, rfl⟩
  rw [← hE] at HF hf
  rw [← hE]
  have t3 : (E == 0) = false := by simpa using hf
  have t4 : decide (E = 0) = false := decide_eq_false hf
  clear hb hE hd
  go_enter Tryz.func51, Tryz.ntmps51
  go_wp2_with fail
  refine HR.out.mono ?_
  rintro e w1 ⟨rfl, rfl⟩
  go_wp2_with fail
  refine HF.out.mono ?_
  rintro e w2 ⟨rfl, hd2, hK2⟩
  go_wp2
  go_ret
  exact ⟨rfl, hd2, hK2⟩
end Go.Proofs.YtnlhjhpikjmoaaaGreatDoor

namespace Go.Proofs.YtnlhjhpikjmoaaaGreatDoor
open Go.RowKit

theorem Tryz.infoU8z : (Tryz.prog.info? 5).map (fun i => (i.zero, i.size, i.bytes)) = some (some (.int .u8 0), 1, 1) := by kernel_rfl
theorem made_bytes (n : Nat) : madeCells #[.int .u8 0] (n * 1) = (bs (List.replicate n 0)).toArray := by
  apply Array.ext
  · simp [madeCells, bs]
  · intro i h1 h2
    simp [madeCells, bs, Nat.mod_one]
theorem make64 (w : World) : (Instr.makeSlice 25 (.int .i64 64) (.int .i64 64)).run Tryz.prog w = .ok (.slice (some ⟨w.heap.size, 0, none⟩) 64 64) (w.alloc (.cells (bs (List.replicate 64 0)).toArray 5)) := by
  obtain ⟨i, hi, hz, hs, hb⟩ := info_parts Tryz.infoU8z
  have hm := run_make (P := Tryz.prog) w 25 5 i _ Tryz.underlying25 hi hz .i64 .i64 64 64 (by omega) (Int.le_refl _) (by rw [hb]; omega) (by omega)
  rw [hm, hs, ← made_bytes]
  rfl
theorem putN_len {l : List UInt8} {off v : Nat} (h : off + 8 ≤ l.length) : (putN l off v).length = l.length := by
  unfold putN
  rw [List.length_append, List.length_append, be8_length, List.length_take, List.length_drop]
  omega
theorem LogR.mono {ft ft' : Nat → Prop} {w : World} {gl gd : Nat} {l : LogD} (h : LogR ft w gl gd l) (hm : ∀ b, ft b → b < w.heap.size → ft' b) : LogR ft' w gl gd l := by
  obtain ⟨vr, vp, h1, h2, h3, h4, h5, h6, h7, h8, h9, h10⟩ := h
  have hl2 := fun b hb => (h2.lt b hb).2
  have hl3 := fun b hb => (h3.lt b hb).2
  obtain ⟨css, ho, hch⟩ := h2
  exact ⟨vr, vp, h1, ⟨css, ho, hch.mono fun b hb hlt => ⟨⟨hm _ hb.1.1 hlt, hb.1.2⟩, hb.2⟩⟩, h3, h4, h5, h6, hm _ h7 h1.lt, fun b hb => hm _ (h8 b hb) (hl2 b hb), fun b hb => hm _ (h9 b hb) (hl3 b hb), h10⟩
end Go.Proofs.YtnlhjhpikjmoaaaGreatDoor
