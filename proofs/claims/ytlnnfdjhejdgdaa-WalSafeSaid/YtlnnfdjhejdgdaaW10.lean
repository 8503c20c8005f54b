/- The log in memory. Contracts: (*Log).ring, First, Next, met, ready. -/
import Derived.Test.YtlnnfdjhejdgdaaW9
namespace Go.Proofs.Ytlnnfdjhejdgdaa
open Go.RowKit

/-- a log: its disk apart -/
structure LogD where
  dead : Bool
  turn : Nat
  first : Nat
  recs : List (List UInt8)
  places : List Nat
  end_ : Nat
  used : Nat
  waits : Bool
/-- bytes of their own in a list -/
def rBs : Rel (List UInt8) where
  sz := 1
  wt := 24
  rel ok w cs l := ∃ v, cs = [v] ∧ RB ok w v l
  len := by rintro ok w cs d ⟨v, rfl, _⟩; rfl
  one := by
    rintro ok w cs d ⟨v, rfl, h⟩ u hu
    rw [List.mem_singleton.1 hu]
    exact h.one
  kp := by
    rintro ok w w' cs d hk ⟨v, rfl, h⟩
    exact ⟨v, rfl, h.kp hk⟩
  mono := by
    rintro ok ok' w cs d hm ⟨v, rfl, h⟩
    exact ⟨v, rfl, h.mono (by decide) hm⟩
def rNat : Rel Nat where
  sz := 1
  wt := 8
  rel _ _ cs n := cs = [.int .i64 (n : Int)]
  len := by rintro ok w cs d rfl; rfl
  one := by
    rintro ok w cs d rfl u hu
    rw [List.mem_singleton.1 hu]
    rfl
  kp := fun _ h => h
  mono := fun _ h => h
theorem Try.rowBs : RowTy Try.prog 36 33 1 24 := rowTy_mk Try.underlying36 (by kernel_rfl)
theorem Try.rowNat : RowTy Try.prog 22 3 1 8 := rowTy_mk Try.underlying22 (by kernel_rfl)
def lgCs (gd : Nat) (l : LogD) (vr vp : Value) : Array Value := #[.pointer (some ⟨gd, 0, none⟩), .bool l.dead, .int .u64 (l.turn : Int), .int .u64 (l.first : Int), vr, vp, .int .i64 (l.end_ : Int), .int .i64 (l.used : Int), .bool l.waits]
structure LogD.Ok (l : LogD) : Prop where
  turn : l.turn < 18446744073709551616
  first : l.first + l.recs.length < 18446744073709551616
  recs : ∀ r ∈ l.recs, r.length ≤ 32768
  places : l.places.length = l.recs.length
  placed : ∀ p ∈ l.places, p < 65536
  end_ : l.end_ < 65536
  used : l.used ≤ 65536
/-- a log in memory; ft: the blocks that it has -/
def LogR (ft : Nat → Prop) (w : World) (gl gd : Nat) (l : LogD) : Prop :=
  ∃ vr vp, Blk w gl 64 (lgCs gd l vr vp) ∧ OwnL rBs (fun b => ft b ∧ b ≠ gl ∧ some b ≠ vp.ownBlock) 0 33 w vr l.recs ∧ OwnL rNat (fun _ => False) 0 3 w vp l.places ∧
    some gl ≠ vr.ownBlock ∧ some gl ≠ vp.ownBlock ∧ (∀ b, vr.ownBlock = some b → vp.ownBlock ≠ some b) ∧ ft gl ∧ (∀ b, vr.ownBlock = some b → ft b) ∧ (∀ b, vp.ownBlock = some b → ft b) ∧ l.Ok
theorem LogR.kp {ft ok : Nat → Prop} {w w' : World} {gl gd : Nat} {l : LogD} (h : LogR ft w gl gd l) (hk : Kp ok w w') (hok : ∀ b, ft b → ok b) : LogR ft w' gl gd l := by
  obtain ⟨vr, vp, h1, h2, h3, h4, h5, h6, h7, h8, h9, h10⟩ := h
  exact ⟨vr, vp, h1.kp hk (hok _ h7), h2.kp hk (fun b hb => hok b hb.1) (fun b hb => hok b (h8 b hb)), h3.kp hk (fun _ h => h.elim) (fun b hb => hok b (h9 b hb)), h4, h5, h6, h7, h8, h9, h10⟩
theorem LogR.below {ft : Nat → Prop} {w w' : World} {gl gd : Nat} {l : LogD} (h : LogR ft w gl gd l) (hb : Below w.heap.size w w') : LogR ft w' gl gd l := h.kp (.of_below hb (ok := fun _ => True)) fun _ _ => trivial
theorem lg_cells {w : World} {g : Nat} {T : TypeId} {gd : Nat} {l : LogD} {vr vp : Value} (h : Blk w g T (lgCs gd l vr vp)) : w.cell? ⟨g, 0, none⟩ = some (.pointer (some ⟨gd, 0, none⟩)) ∧ w.cell? ⟨g, 1, none⟩ = some (.bool l.dead) ∧ w.cell? ⟨g, 2, none⟩ = some (.int .u64 (l.turn : Int)) ∧ w.cell? ⟨g, 3, none⟩ = some (.int .u64 (l.first : Int)) ∧ w.cell? ⟨g, 4, none⟩ = some vr ∧ w.cell? ⟨g, 5, none⟩ = some vp ∧ w.cell? ⟨g, 6, none⟩ = some (.int .i64 (l.end_ : Int)) ∧ w.cell? ⟨g, 7, none⟩ = some (.int .i64 (l.used : Int)) ∧ w.cell? ⟨g, 8, none⟩ = some (.bool l.waits) :=
  ⟨h.cell 0, h.cell 1, h.cell 2, h.cell 3, h.cell 4, h.cell 5, h.cell 6, h.cell 7, h.cell 8⟩
section
variable {fl fd : Nat → Prop} {gl gd : Nat} {l : LogD} {d : DskD} {w : World}
theorem ring_any (h : LogR fl w gl gd l) (hd : DiskR fd w gd d) : Calls Try.prog 35 #[.pointer (some ⟨gl, 0, none⟩)] w fun e w' => e = .returned (.int .i64 ((d.kept.length : Int) - 2)) ∧ w' = w := by
  obtain ⟨vr, vp, hb, _⟩ := h
  obtain ⟨c0, _⟩ := lg_cells hb
  have hn := hd.ok
  have h1 : 1 ≤ d.kept.length := hn.2.1
  have h2 : d.kept.length ≤ 65536 := hn.2.2.1
  clear hn hb
  go_enter Try.func35, Try.ntmps35
  go_wp2_with fail
  refine (dSize_any hd).mono ?_
  rintro e w1 ⟨rfl, rfl⟩
  go_wp2
  go_ret
  exact ⟨rfl, rfl⟩
theorem first_any (h : LogR fl w gl gd l) : Calls Try.prog 17 #[.pointer (some ⟨gl, 0, none⟩)] w fun e w' => e = .returned (.int .u64 (l.first : Int)) ∧ w' = w := by
  obtain ⟨vr, vp, hb, _⟩ := h
  obtain ⟨c0, c1, c2, c3, _⟩ := lg_cells hb
  clear hb
  go_enter Try.func17, Try.ntmps17
  go_wp2
  go_ret
  exact ⟨rfl, rfl⟩
theorem met_any (h : LogR fl w gl gd l) (k : Int) : Calls Try.prog 39 #[.pointer (some ⟨gl, 0, none⟩), .int .i64 k] w fun e w' => e = .returned (.int .i64 k) ∧ LogR fl w' gl gd { l with dead := l.dead || k == 3 } ∧ Kp (fun b => b ≠ gl) w w' := by
  obtain ⟨vr, vp, hb, h2, h3, h4, h5, h6, h7, h8, h9, h10⟩ := h
  obtain ⟨c0, c1, _⟩ := lg_cells hb
  have fg := fun i => hb.frozen i
  have hfin : ∀ u, u = (l.dead || k == 3) → LogR fl (w.setCell ⟨gl, 1, none⟩ (.bool u)) gl gd { l with dead := l.dead || k == 3 } := fun u hu => by
    subst hu
    have hkp : Kp (fun b => b ≠ gl) w (w.setCell ⟨gl, 1, none⟩ (.bool (l.dead || k == 3))) := (Kp.refl _ _).setCell (fun _ h => h rfl) _
    exact ⟨vr, vp, hb.set_ 1 (.bool (l.dead || k == 3)), h2.kp hkp (fun b hb => hb.2.1) (fun b hb e => h4 (by rw [hb, e])), h3.kp hkp (fun _ h => h.elim) (fun b hb e => h5 (by rw [hb, e])), h4, h5, h6, h7, h8, h9, ⟨h10.turn, h10.first, h10.recs, h10.places, h10.placed, h10.end_, h10.used⟩⟩
  have hkp : ∀ u, Kp (fun b => b ≠ gl) w (w.setCell ⟨gl, 1, none⟩ u) := fun u => (Kp.refl _ _).setCell (fun _ h => h rfl) _
  have HF := Lib.hid hfin
  clear hfin hb h2 h3 h8 h9 h6
  cases hdd : l.dead <;> rw [hdd] at c1
  · go_enter Try.func39, Try.ntmps39
    go_wp2_with fail
    refine (errIs_any k 3 _).mono ?_
    rintro e w1 ⟨rfl, rfl⟩
    go_wp2
    go_ret
    have := HF.out (k == 3) (by rw [hdd]; rfl)
    rw [hdd] at this
    exact ⟨rfl, this, hkp _⟩
  · go_enter Try.func39, Try.ntmps39
    go_wp2
    go_ret
    have := HF.out true (by rw [hdd]; rfl)
    rw [hdd] at this
    exact ⟨rfl, this, hkp _⟩
end
end Go.Proofs.Ytlnnfdjhejdgdaa
