/- The disk and the log as plain data: what each function of packages disk and wal computes. No program in sight.
The disk in memory: sectors, what waits.
Contracts: errors.Is of two error numbers; disk.fine, up, hit, Down, Size, New.
Structs and slices put together of parts of many cells. Contract: disk.New.
A write put together; contract: (*Disk).Write. -/
import Derived.Test.YtnlhjhpikjmoaaaGreatDoorSeqG
import Derived.Test.YtnlhjhpikjmoaaaGreatDoorCmd
import Derived.Stop.Asserts
import Derived.Lib.IfaceEq
import Derived.Laws.MakeOwn
import Derived.Great.BuildSlice
namespace Go.Proofs.YtnlhjhpikjmoaaaGreatDoor
open Go.RowKit

/-- a disk: what is kept, what waits, whether it is down, how many calls are left till one is hit -/
structure DskD where
  kept : List (List UInt8)
  wait : List (Nat × List UInt8)
  down : Bool
  armed : Nat
def DskD.hit (d : DskD) : DskD × Bool := if d.armed = 0 then (d, false) else ({ d with armed := d.armed - 1, down := decide (d.armed - 1 = 0) }, decide (d.armed - 1 = 0))
def showW (i : Nat) (s : List UInt8) (l : List (Nat × List UInt8)) : List UInt8 := l.foldl (fun s p => if p.1 = i then p.2 else s) s
def DskD.shown (d : DskD) (i : Nat) : List UInt8 := showW i (d.kept.getD i []) d.wait
def DskD.read (d : DskD) (i : Int) : List UInt8 × Int := if d.down = true then ([], 3) else if i < 0 ∨ (d.kept.length : Int) ≤ i then ([], 1) else (d.shown i.toNat, 0)
def DskD.write (d : DskD) (i : Int) (b : List UInt8) : DskD × Int :=
  if d.down = true then (d, 3) else if i < 0 ∨ (d.kept.length : Int) ≤ i ∨ b.length ≠ 64 then (d, 1) else
  (({ d with wait := d.wait ++ [(i.toNat, b)] } : DskD).hit.1, if ({ d with wait := d.wait ++ [(i.toNat, b)] } : DskD).hit.2 = true then 3 else 0)
def keepW (k : List (List UInt8)) (l : List (Nat × List UInt8)) : List (List UInt8) := l.foldl (fun k p => k.set p.1 p.2) k
def DskD.flush (d : DskD) : DskD × Int :=
  if d.down = true then (d, 3) else if d.hit.2 = true then (d.hit.1, 3) else ({ d.hit.1 with kept := keepW d.kept d.wait, wait := [] }, 0)
def newD (n : Nat) : DskD := ⟨List.replicate n (List.replicate 64 0), [], false, 0⟩
/-- as it may be: all sectors of one size, what waits is for one that is there -/
structure DskD.Ok (d : DskD) : Prop where
  kept : ∀ s ∈ d.kept, s.length = 64
  wait : ∀ p ∈ d.wait, p.1 < d.kept.length ∧ p.2.length = 64
theorem DskD.hit_ok {d : DskD} (h : d.Ok) : d.hit.1.Ok := by
  unfold DskD.hit
  split
  · exact h
  · exact ⟨h.kept, h.wait⟩
theorem DskD.write_ok {d : DskD} (h : d.Ok) (i : Int) (b : List UInt8) : (d.write i b).1.Ok := by
  unfold DskD.write
  split
  · exact h
  split
  · exact h
  · rename_i h1 h2
    refine DskD.hit_ok ⟨h.kept, fun p hp => ?_⟩
    rcases List.mem_append.1 hp with hp | hp
    · exact h.wait p hp
    · rw [List.mem_singleton.1 hp]
      refine ⟨?_, ?_⟩
      · show i.toNat < d.kept.length
        omega
      · show b.length = 64
        omega
theorem keepW_len : ∀ (l : List (Nat × List UInt8)) (k : List (List UInt8)), (keepW k l).length = k.length
  | [], k => rfl
  | p :: l, k => by
    show (keepW (k.set p.1 p.2) l).length = _
    rw [keepW_len l, List.length_set]
theorem keepW_64 : ∀ (l : List (Nat × List UInt8)) (k : List (List UInt8)), (∀ s ∈ k, s.length = 64) → (∀ p ∈ l, p.2.length = 64) → ∀ s ∈ keepW k l, s.length = 64
  | [], k, h, _ => h
  | p :: l, k, h, hl => keepW_64 l (k.set p.1 p.2) (fun s hs => (List.mem_or_eq_of_mem_set hs).elim (h s) fun e => e ▸ hl p (by simp)) fun q hq => hl q (List.mem_cons_of_mem _ hq)
theorem DskD.flush_ok {d : DskD} (h : d.Ok) : d.flush.1.Ok := by
  unfold DskD.flush
  split
  · exact h
  split
  · exact DskD.hit_ok h
  · exact ⟨keepW_64 _ _ h.kept fun p hp => (h.wait p hp).2, fun p hp => by cases hp⟩
theorem showW_64 (i : Nat) : ∀ (l : List (Nat × List UInt8)) (s : List UInt8), s.length = 64 → (∀ p ∈ l, p.2.length = 64) → (showW i s l).length = 64
  | [], s, h, _ => h
  | p :: l, s, h, hl => by
    show (showW i (if p.1 = i then p.2 else s) l).length = 64
    refine showW_64 i l _ ?_ fun q hq => hl q (List.mem_cons_of_mem _ hq)
    split
    · exact hl p (by simp)
    · exact h
theorem DskD.shown_64 {d : DskD} (h : d.Ok) {i : Nat} (hi : i < d.kept.length) : (d.shown i).length = 64 :=
  showW_64 i _ _ (by rw [List.getD_eq_getElem?_getD, List.getElem?_eq_getElem hi]; exact h.kept _ (List.getElem_mem _)) fun p hp => (h.wait p hp).2
end Go.Proofs.YtnlhjhpikjmoaaaGreatDoor

namespace Go.Proofs.YtnlhjhpikjmoaaaGreatDoor
open Go.RowKit

theorem bs_len (l : List UInt8) : (bs l).length = l.length := by simp [bs]
/-- one sector's cells -/
def rSec : Rel (List UInt8) where
  sz := 64
  wt := 64
  rel _ _ cs s := cs = bs s ∧ s.length = 64
  len := by rintro ok w cs d ⟨rfl, h⟩; rw [bs_len]; exact h
  one := by rintro ok w cs d ⟨rfl, _⟩; exact bs_one _
  kp := fun _ h => h
  mono := fun _ h => h
/-- a write that waits -/
def rWt : Rel (Nat × List UInt8) where
  sz := 65
  wt := 72
  rel _ _ cs p := cs = .int .i64 (p.1 : Int) :: bs p.2 ∧ p.2.length = 64
  len := by rintro ok w cs d ⟨rfl, h⟩; rw [List.length_cons, bs_len, h]
  one := by
    rintro ok w cs d ⟨rfl, _⟩ u hu
    rcases List.mem_cons.1 hu with rfl | hu
    · rfl
    · exact bs_one _ u hu
  kp := fun _ h => h
  mono := fun _ h => h
/-- the cells of sectors, one behind the other -/
def secCells : List (List UInt8) → List Value
  | [] => []
  | s :: k => bs s ++ secCells k
theorem secCells_len : ∀ (k : List (List UInt8)), (∀ s ∈ k, s.length = 64) → (secCells k).length = k.length * 64
  | [], _ => rfl
  | s :: k, h => by
    rw [secCells, List.length_append, bs_len, h s (by simp), secCells_len k fun t ht => h t (List.mem_cons_of_mem _ ht), List.length_cons]
    omega
theorem secCells_get : ∀ (k : List (List UInt8)), (∀ s ∈ k, s.length = 64) → ∀ (i : Nat) (hi : i < k.length) (j : Nat), j < 64 → (secCells k)[i * 64 + j]? = (bs k[i])[j]?
  | s :: k, h, 0, _, j, hj => by
    rw [secCells, Nat.zero_mul, Nat.zero_add, List.getElem?_append_left (by rw [bs_len, h s (by simp)]; exact hj)]
    rfl
  | s :: k, h, i + 1, hi, j, hj => by
    have h0 := h s (by simp)
    rw [secCells, List.getElem?_append_right (by rw [bs_len, h0]; omega), bs_len, h0, show (i + 1) * 64 + j - 64 = i * 64 + j by omega]
    exact secCells_get k (fun t ht => h t (List.mem_cons_of_mem _ ht)) i (by simpa using hi) j hj
theorem secCells_split : ∀ (k : List (List UInt8)) (i : Nat) (hi : i < k.length) (s : List UInt8), secCells (k.set i s) = secCells (k.take i) ++ bs s ++ secCells (k.drop (i + 1))
  | t :: k, 0, _, s => by simp [secCells]
  | t :: k, i + 1, hi, s => by
    rw [List.set_cons_succ, List.take_succ_cons, List.drop_succ_cons, secCells, secCells, secCells_split k i (by simpa using hi) s]
    simp

/-- a disk in memory; ft: the blocks that it has -/
def DiskR (ft : Nat → Prop) (w : World) (g : Nat) (d : DskD) : Prop :=
  ∃ kb vw, Blk w g 91 #[.slice (some ⟨kb, 0, none⟩) d.kept.length d.kept.length, vw, .bool d.down, .int .i64 (d.armed : Int)] ∧ Blk w kb 93 (secCells d.kept).toArray ∧
    OwnL rWt (fun _ => False) 0 95 w vw d.wait ∧ kb ≠ g ∧ some g ≠ vw.ownBlock ∧ some kb ≠ vw.ownBlock ∧ ft g ∧ ft kb ∧ (∀ b, vw.ownBlock = some b → ft b) ∧ d.Ok ∧ 1 ≤ d.kept.length ∧ d.kept.length ≤ 65536 ∧ d.armed < 9223372036854775808 ∧ d.wait.length ≤ 1000000000
theorem DiskR.kp {ft ok : Nat → Prop} {w w' : World} {g : Nat} {d : DskD} (h : DiskR ft w g d) (hk : Kp ok w w') (hok : ∀ b, ft b → ok b) : DiskR ft w' g d := by
  obtain ⟨kb, vw, h1, h2, h3, h4, h5, h6, h7, h8, h9, h10⟩ := h
  exact ⟨kb, vw, h1.kp hk (hok _ h7), h2.kp hk (hok _ h8), h3.kp hk (fun _ h => h.elim) fun b hb => hok b (h9 b hb), h4, h5, h6, h7, h8, h9, h10⟩
theorem DiskR.below {ft : Nat → Prop} {w w' : World} {g : Nat} {d : DskD} (h : DiskR ft w g d) (hb : Below w.heap.size w w') : DiskR ft w' g d := h.kp (.of_below hb (ok := fun _ => True)) fun _ _ => trivial
theorem DiskR.mono {ft ft' : Nat → Prop} {w : World} {g : Nat} {d : DskD} (h : DiskR ft w g d) (hm : ∀ b, ft b → b < w.heap.size → ft' b) : DiskR ft' w g d := by
  obtain ⟨kb, vw, h1, h2, h3, h4, h5, h6, h7, h8, h9, h10⟩ := h
  exact ⟨kb, vw, h1, h2, h3, h4, h5, h6, hm _ h7 h1.lt, hm _ h8 h2.lt, fun b hb => hm b (h9 b hb) (h3.lt b hb).2, h10⟩
theorem DiskR.lt {ft : Nat → Prop} {w : World} {g : Nat} {d : DskD} (h : DiskR ft w g d) : g < w.heap.size := by
  obtain ⟨kb, vw, h1, _⟩ := h
  exact h1.lt
theorem DiskR.ft {ft : Nat → Prop} {w : World} {g : Nat} {d : DskD} (h : DiskR ft w g d) : ft g := by
  obtain ⟨kb, vw, h1, h2, h3, h4, h5, h6, h7, _⟩ := h
  exact h7
theorem DiskR.ok {ft : Nat → Prop} {w : World} {g : Nat} {d : DskD} (h : DiskR ft w g d) : d.Ok ∧ 1 ≤ d.kept.length ∧ d.kept.length ≤ 65536 ∧ d.armed < 9223372036854775808 ∧ d.wait.length ≤ 1000000000 := by
  obtain ⟨kb, vw, h1, h2, h3, h4, h5, h6, h7, h8, h9, h10⟩ := h
  exact h10
theorem dk_cells {w : World} {g : Nat} {T : TypeId} {a b c d : Value} (h : Blk w g T #[a, b, c, d]) : w.cell? ⟨g, 0, none⟩ = some a ∧ w.cell? ⟨g, 1, none⟩ = some b ∧ w.cell? ⟨g, 2, none⟩ = some c ∧ w.cell? ⟨g, 3, none⟩ = some d := ⟨h.cell 0, h.cell 1, h.cell 2, h.cell 3⟩
/-- a sector's cells in the kept ones -/
theorem sec_range {w : World} {kb : Nat} {T : TypeId} {k : List (List UInt8)} (h : Blk w kb T (secCells k).toArray) (hk : ∀ s ∈ k, s.length = 64) {i : Nat} (hi : i < k.length) : w.rangeAt kb (i * 64) (bs k[i]) := fun j v hv => by
  have hj : j < 64 := by
    have := (List.getElem?_eq_some_iff.1 hv).1
    rw [bs_len, hk _ (List.getElem_mem _)] at this
    exact this
  rw [h.cell (i * 64 + j), List.getElem?_toArray, secCells_get k hk i hi j hj]
  exact hv
end Go.Proofs.YtnlhjhpikjmoaaaGreatDoor

namespace Go.Proofs.YtnlhjhpikjmoaaaGreatDoor
open Go.RowKit Go.Extern.Stop Go.Stop Go.Extern

theorem Tryz.isTypeOf (v : Value) (w : World) : (Extern.ReflectliteType.typeOf #[.iface 40 v]).run Tryz.prog w = .ok (.iface 149 (.agg #[typeHandle Tryz.prog 40])) w := by kernel_rfl
theorem Tryz.isComparable (w : World) : (callFunc 137 #[.agg #[typeHandle Tryz.prog 40]]).run Tryz.prog w = .ok (.value (.bool true)) w := by
  rw [@run_callFunc_extern Tryz.prog 137 _ (Extern.ReflectliteType.method fun t => do Go.Extern.Rtype.noPackHeld "Comparable" t; pure (.bool (← typeInfo t).comparable)) Tryz.func137 (by kernel_rfl) (by kernel_rfl) (by kernel_rfl) (by kernel_rfl)]
  kernel_rfl
theorem Tryz.isMethodComparable (v : Value) (w : World) : (Go.method 310 149 v "Comparable").run Tryz.prog w = .ok (137, v) w := by kernel_rfl
theorem Tryz.isComp : (Tryz.prog.info? 40).map (·.comparable) = some true := by kernel_rfl
theorem Tryz.noIs (v : Value) (xT : TypeId) (w : World) : (Instr.typeAssert (.iface 40 v) xT 177 true).run Tryz.prog w = .ok (.tuple #[.nilIface, .bool false]) w := run_typeAssert_lacksB Tryz.underlying177 (by kernel_rfl) (by kernel_rfl) v xT w
theorem Tryz.noUnwrap (v : Value) (xT : TypeId) (w : World) : (Instr.typeAssert (.iface 40 v) xT 157 true).run Tryz.prog w = .ok (.tuple #[.nilIface, .bool false]) w := run_typeAssert_lacksB Tryz.underlying157 (by kernel_rfl) (by kernel_rfl) v xT w
theorem Tryz.noUnwraps (v : Value) (xT : TypeId) (w : World) : (Instr.typeAssert (.iface 40 v) xT 159 true).run Tryz.prog w = .ok (.tuple #[.nilIface, .bool false]) w := run_typeAssert_lacksB Tryz.underlying159 (by kernel_rfl) (by kernel_rfl) v xT w

set_option maxRecDepth 100000 in
set_option maxHeartbeats 3200000 in
theorem errIs_any (a b : Int) (w : World) :
    Calls Tryz.prog 92 #[.iface 40 (.int .i64 a), .iface 40 (.int .i64 b)] w fun e w' => e = .returned (.bool (a == b)) ∧ w' = w := by
  have h8 := @run_callFunc_extern Tryz.prog 93 _ Extern.ReflectliteType.typeOf Tryz.func93 (by kernel_rfl) (by kernel_rfl) (by kernel_rfl) (by kernel_rfl)
  have tT := Tryz.isTypeOf
  have cT := Tryz.isComparable
  have mR := Tryz.isMethodComparable
  have nE := Tryz.noIs
  have uE := Tryz.noUnwrap
  have vE := Tryz.noUnwraps
  have heq := Lib.run_eql_iface_int (P := Tryz.prog) w (k := .i64) a b Tryz.underlying37 Tryz.isComp Tryz.underlying40
  cases hab : (a == b) <;> rw [hab] at heq
  · go_enter Tryz.func92, Tryz.ntmps92
    go_wp2
    refine wp_loop_rounds 1 ?_
    rw [rounds_succ]
    go_wp2
    go_ret
    exact ⟨rfl, rfl⟩
  · go_enter Tryz.func92, Tryz.ntmps92
    go_wp2
    refine wp_loop_rounds 1 ?_
    rw [rounds_succ]
    go_wp2
    go_ret
    exact ⟨rfl, rfl⟩
/-- is it OK? -/
theorem fine_any (a : Int) (w : World) : Calls Tryz.prog 76 #[.iface 40 (.int .i64 a)] w fun e w' => e = .returned (.bool (a == 0)) ∧ w' = w := by
  go_enter Tryz.func76, Tryz.ntmps76
  go_wp2_with fail
  refine (errIs_any a 0 _).mono ?_
  rintro e w1 ⟨rfl, rfl⟩
  go_wp2
  go_ret
  exact ⟨rfl, rfl⟩
section
variable {ft : Nat → Prop} {g : Nat} {d : DskD} {w : World}
theorem up_any (h : DiskR ft w g d) : Calls Tryz.prog 75 #[.pointer (some ⟨g, 0, none⟩)] w fun e w' => e = .returned (.int .i64 (if d.down = true then 3 else 0)) ∧ w' = w := by
  obtain ⟨kb, vw, hb, _⟩ := h
  obtain ⟨c0, c1, c2, c3⟩ := dk_cells hb
  cases hd : d.down <;> rw [hd] at c2
  · go_enter Tryz.func75, Tryz.ntmps75
    go_wp2
    go_ret
    exact ⟨rfl, rfl⟩
  · go_enter Tryz.func75, Tryz.ntmps75
    go_wp2
    go_ret
    exact ⟨rfl, rfl⟩
theorem dDown_any (h : DiskR ft w g d) : Calls Tryz.prog 25 #[.pointer (some ⟨g, 0, none⟩)] w fun e w' => e = .returned (.bool d.down) ∧ w' = w := by
  obtain ⟨kb, vw, hb, _⟩ := h
  obtain ⟨c0, c1, c2, c3⟩ := dk_cells hb
  go_enter Tryz.func25, Tryz.ntmps25
  go_wp2
  go_ret
  exact ⟨rfl, rfl⟩
theorem dSize_any (h : DiskR ft w g d) : Calls Tryz.prog 47 #[.pointer (some ⟨g, 0, none⟩)] w fun e w' => e = .returned (.int .i64 (d.kept.length : Int)) ∧ w' = w := by
  obtain ⟨kb, vw, hb, _⟩ := h
  obtain ⟨c0, c1, c2, c3⟩ := dk_cells hb
  go_enter Tryz.func47, Tryz.ntmps47
  go_wp2
  go_ret
  exact ⟨rfl, rfl⟩
/-- a call is hit, or not -/
theorem hit_any (h : DiskR ft w g d) : Calls Tryz.prog 101 #[.pointer (some ⟨g, 0, none⟩)] w fun e w' => e = .returned (.bool d.hit.2) ∧ DiskR ft w' g d.hit.1 ∧ Kp (fun b => b ≠ g) w w' := by
  obtain ⟨kb, vw, h1, h2, h3, h4, h5, h6, h7, h8, h9, h10, h11, h12, h13, h14⟩ := h
  obtain ⟨c0, c1, c2, c3⟩ := dk_cells h1
  have fg := fun i => h1.frozen i
  by_cases ha : d.armed = 0
  · have t : ((d.armed : Int) == 0) = true := by rw [ha]; rfl
    have hh : d.hit = (d, false) := by unfold DskD.hit; rw [if_pos ha]
    rw [hh]
    have hR : DiskR ft w g d := ⟨kb, vw, h1, h2, h3, h4, h5, h6, h7, h8, h9, h10, h11, h12, h13, h14⟩
    clear h1 h2 h3 h9 h10
    go_enter Tryz.func101, Tryz.ntmps101
    go_wp2
    go_ret
    exact ⟨rfl, hR, Kp.refl _ _⟩
  · have t : ((d.armed : Int) == 0) = false := by simpa using ha
    have t' : decide ((d.armed : Int) = 0) = false := decide_eq_false (by omega)
    obtain ⟨k, hk⟩ : ∃ k, d.armed = k + 1 := ⟨d.armed - 1, by omega⟩
    have e1 : (d.armed : Int) - 1 = (k : Int) := by omega
    have hh : d.hit = ({ d with armed := k, down := decide (k = 0) }, decide (k = 0)) := by unfold DskD.hit; rw [if_neg ha, hk]; rfl
    rw [hh]
    have hfin : ∀ b, b = decide (k = 0) → DiskR ft ((w.setCell ⟨g, 3, none⟩ (.int .i64 (k : Int))).setCell ⟨g, 2, none⟩ (.bool b)) g { d with armed := k, down := decide (k = 0) } := fun b hb => by
      subst hb
      have hbb : Blk ((w.setCell ⟨g, 3, none⟩ (.int .i64 (k : Int))).setCell ⟨g, 2, none⟩ (.bool (decide (k = 0)))) g 91 #[.slice (some ⟨kb, 0, none⟩) d.kept.length d.kept.length, vw, .bool (decide (k = 0)), .int .i64 (k : Int)] := by simpa using (h1.set_ 3 (.int .i64 (k : Int))).set_ 2 (.bool (decide (k = 0)))
      have hK : Kp (fun b => b ≠ g) w ((w.setCell ⟨g, 3, none⟩ (.int .i64 (k : Int))).setCell ⟨g, 2, none⟩ (.bool (decide (k = 0)))) := ((Kp.refl _ _).setCell (fun _ h => h rfl) _).setCell (fun _ h => h rfl) _
      exact ⟨kb, vw, hbb, h2.kp hK h4, h3.kp hK (fun _ h => h.elim) (fun b hb e => h5 (by rw [← e]; exact hb.symm)), h4, h5, h6, h7, h8, h9, ⟨h10.kept, h10.wait⟩, h11, h12, by show k < _; omega, h14⟩
    have hK : ∀ b, Kp (fun b => b ≠ g) w ((w.setCell ⟨g, 3, none⟩ (.int .i64 (k : Int))).setCell ⟨g, 2, none⟩ (.bool b)) := fun b => ((Kp.refl _ _).setCell (fun _ h => h rfl) _).setCell (fun _ h => h rfl) _
    have HF := Lib.hid hfin
    clear hfin h1 h2 h3 h9 h10 hk ha hh
    by_cases k0 : k = 0
    · subst k0
      have u : (((0 : Nat) : Int) == 0) = true := rfl
      go_enter Tryz.func101, Tryz.ntmps101
      go_wp2
      go_ret
      simp only [e1, u]
      exact ⟨rfl, HF.out _ rfl, hK _⟩
    · have u : ((k : Int) == 0) = false := by simpa using k0
      have u' : decide ((k : Int) = 0) = false := decide_eq_false (by omega)
      have u2 : decide (k = 0) = false := decide_eq_false k0
      rw [u2]
      go_enter Tryz.func101, Tryz.ntmps101
      go_wp2
      go_ret
      simp only [e1, u]
      exact ⟨rfl, by have := HF.out _ u2.symm; rw [u2] at this; exact this, hK _⟩
end
end Go.Proofs.YtnlhjhpikjmoaaaGreatDoor

namespace Go.Proofs.YtnlhjhpikjmoaaaGreatDoor
open Go.RowKit

theorem zipFold : ∀ (vs : List Value) (k off : Nat) (cs : Array Value), off + k + vs.length ≤ cs.size → ((vs.zipIdx k).foldl (fun (cs : Array Value) (p : Value × Nat) => cs.setIfInBounds (off + p.2) p.1) cs).toList = cs.toList.take (off + k) ++ vs ++ cs.toList.drop (off + k + vs.length)
  | [], k, off, cs, _ => by simp
  | v :: vs, k, off, cs, h => by
    have ih := zipFold vs (k + 1) off (cs.setIfInBounds (off + k) v) (by simp only [Array.size_setIfInBounds]; simp at h; omega)
    rw [List.zipIdx_cons, List.foldl_cons, ih, Array.toList_setIfInBounds]
    have hk : off + k < cs.toList.length := by simp at h ⊢; omega
    rw [show off + (k + 1) = (off + k) + 1 by omega, List.drop_set_of_lt (by omega), List.take_succ_eq_append_getElem (by simpa using hk), List.take_set_of_le (Nat.le_refl _), List.getElem_set_self]
    simp only [List.append_assoc, List.singleton_append, List.length_cons]
    rw [show off + k + 1 + vs.length = off + k + (vs.length + 1) by omega]
theorem fill_part (vs cs : Array Value) (off : Nat) (h : off + vs.size ≤ cs.size) : (vs.zipIdx.foldl (fun cs (p : Value × Nat) => cs.setIfInBounds (off + p.2) p.1) cs).toList = cs.toList.take off ++ vs.toList ++ cs.toList.drop (off + vs.size) := by
  have := zipFold vs.toList 0 off cs (by simpa using h)
  rw [← Array.foldl_toList, Array.toList_zipIdx]
  simpa using this
theorem Tryz.infoSec : (Tryz.prog.info? 93).map (fun i => (i.zero, i.size, i.bytes)) = some (some (.agg (Array.replicate 64 (.int .u8 0))), 64, 64) := by kernel_rfl
theorem zero_sectors : ∀ n : Nat, secCells (List.replicate n (List.replicate 64 0)) = List.replicate (n * 64) (.int .u8 0)
  | 0 => rfl
  | n + 1 => by
    rw [List.replicate_succ, secCells, zero_sectors n, show bs (List.replicate 64 0) = List.replicate 64 (.int .u8 0) by simp [bs], List.replicate_append_replicate]
    congr 1
    omega
theorem made_sectors (n : Nat) : madeCells (Array.replicate 64 (.int .u8 0)) (n * 64) = (secCells (List.replicate n (List.replicate 64 0))).toArray := by
  rw [zero_sectors]
  apply Array.ext
  · simp [madeCells]
  · intro i h1 h2
    simp only [madeCells, Array.getElem_map, Array.getElem_range, Array.size_replicate, List.getElem_toArray, List.getElem_replicate]
    rw [getElem!_pos _ _ (by simp; omega), Array.getElem_replicate]
theorem newD_ok (n : Nat) : (newD n).Ok := ⟨fun s hs => by
  have := List.eq_of_mem_replicate hs
  rw [this]; rfl, fun p hp => by cases hp⟩
set_option maxRecDepth 100000 in
theorem dNew_any (n : Nat) (h1 : 1 ≤ n) (h2 : n ≤ 65536) (w : World) : Calls Tryz.prog 18 #[.int .i64 (n : Int)] w fun e w' => (∃ g, e = .returned (.tuple #[.pointer (some ⟨g, 0, none⟩), .int .i64 0]) ∧ w.heap.size ≤ g ∧ DiskR (fun b => w.heap.size ≤ b) w' g (newD n)) ∧ Below w.heap.size w w' := by
  obtain ⟨i, hi, hz, hs, hb⟩ := info_parts Tryz.infoSec
  have hm := run_make (P := Tryz.prog) w 88 93 i _ Tryz.underlying88 hi hz .i64 .i64 (n : Int) (n : Int) (by omega) (Int.le_refl _) (by rw [hb]; omega) (by omega)
  have hm2 : (Instr.makeSlice 88 (.int .i64 (n : Int)) (.int .i64 (n : Int))).run Tryz.prog w = .ok (.slice (some ⟨w.heap.size, 0, none⟩) n n) (w.alloc (.cells (secCells (List.replicate n (List.replicate 64 0))).toArray 93)) := by
    rw [hm, hs]
    simp only [Int.toNat_natCast]
    rw [← made_sectors]
    rfl
  clear hm
  have t1 : decide ((n : Int) < 1) = false := decide_eq_false (by omega)
  have t2 : decide ((65536 : Int) < (n : Int)) = false := decide_eq_false (by omega)
  have t3 : decide ((n : Int) ≤ 0) = false := decide_eq_false (by omega)
  obtain ⟨C, hC⟩ : ∃ C, C = (secCells (List.replicate n (List.replicate 64 0))).toArray := ⟨_, rfl⟩
  rw [← hC] at hm2
  have HC := Lib.hid hC
  clear hC hi hz hs hb
  go_enter Tryz.func18, Tryz.ntmps18
  go_wp2
  go_ret2
  have hal : Below w.heap.size w ((w.alloc (.cells C 93)).alloc (.cells #[.slice (some ⟨w.heap.size, 0, none⟩) n n, .slice none 0 0, .bool false, .int .i64 0] 91)) := ((Below.refl _ _).alloc (Nat.le_refl _) _).alloc (by simp) _
  refine ⟨⟨w.heap.size + 1, rfl, by omega, w.heap.size, .slice none 0 0, ?_, ?_, OwnL.nil_ _ _ _ _ _, by omega, by simp [Value.ownBlock], by simp [Value.ownBlock], by omega, Nat.le_refl _, (fun b hb => by cases hb), newD_ok n, ?_⟩, hal⟩
  · have : Blk ((w.alloc (.cells C 93)).alloc (.cells #[.slice (some ⟨w.heap.size, 0, none⟩) n n, .slice none 0 0, .bool false, .int .i64 0] 91)) (w.heap.size + 1) 91 #[.slice (some ⟨w.heap.size, 0, none⟩) n n, .slice none 0 0, .bool false, .int .i64 0] := Blk.new_ (by simp)
    simpa [newD] using this
  · have : Blk ((w.alloc (.cells C 93)).alloc (.cells #[.slice (some ⟨w.heap.size, 0, none⟩) n n, .slice none 0 0, .bool false, .int .i64 0] 91)) w.heap.size 93 C := (Blk.new w _ _).alloc _
    rw [HC.out] at this ⊢
    exact this
  · simp [newD]
    omega
end Go.Proofs.YtnlhjhpikjmoaaaGreatDoor

namespace Go.Proofs.YtnlhjhpikjmoaaaGreatDoor
open Go.RowKit

theorem fill_two (p : Nat → Option (Nat × Nat)) (Z : Array Value) (v0 v1 : Value) (a b : Nat) (h0 : p 0 = some (0, a)) (h1 : p 1 = some (a, b)) (s0 : v0.cells.size = a) (s1 : v1.cells.size = b) (hZ : Z.size = a + b) :
    Instr.fill p Z [(0, v0), (1, v1)] = some (v0.cells ++ v1.cells) := by
  unfold Instr.fill
  simp only [h0]
  have c0 : (v0.cells.size != a || decide (0 + v0.cells.size > Z.size)) = false := by simp [s0]; omega
  rw [if_neg (by simp [s0]; omega)]
  unfold Instr.fill
  simp only [h1]
  have hz1 : (v0.cells.zipIdx.foldl (fun cs (p : Value × Nat) => cs.setIfInBounds (0 + p.2) p.1) Z).size = a + b := by
    rw [← Array.length_toList, fill_part _ _ _ (by omega)]
    simp
    omega
  have hz2 : (v0.cells.zipIdx.foldl (fun cs (p : Value × Nat) => cs.setIfInBounds (0 + p.2) p.1) Z).toList = v0.cells.toList ++ Z.toList.drop a := by
    rw [fill_part _ _ _ (by omega)]
    simp [s0]
  rw [if_neg (by rw [hz1]; simp [s1])]
  unfold Instr.fill
  congr 1
  apply Array.ext'
  rw [fill_part _ _ _ (by rw [hz1]; omega), hz2]
  simp [s0, s1]
  omega
theorem fill_one (p : Nat → Option (Nat × Nat)) (Z : Array Value) (v0 : Value) (a : Nat) (h0 : p 0 = some (0, a)) (s0 : v0.cells.size = a) (hZ : Z.size = a) : Instr.fill p Z [(0, v0)] = some v0.cells := by
  unfold Instr.fill
  simp only [h0]
  rw [if_neg (by simp [s0]; omega)]
  unfold Instr.fill
  congr 1
  apply Array.ext'
  rw [fill_part _ _ _ (by omega)]
  simp [s0]
  omega
theorem Tryz.zeroWt (w : World) : (zeroValue 95).run Tryz.prog w = .ok (.agg (Array.replicate 65 undef |>.mapIdx fun i _ => if i = 0 then .int .i64 0 else .int .u8 0)) w := by kernel_rfl
theorem zWt_size : (Value.agg (Array.replicate 65 undef |>.mapIdx fun i _ => if i = 0 then .int .i64 0 else .int .u8 0)).cells.size = 65 := by simp [Value.cells]
theorem build_write (n : Int) (C : Array Value) (hC : C.size = 64) (w : World) : (Instr.build 95 #[(0, .int .i64 n), (1, .agg C)]).run Tryz.prog w = .ok (.agg (#[.int .i64 n] ++ C)) w := by
  unfold Instr.build
  simp only [Sem.run_bind, Tryz.zeroWt, Result.andThen_ok, run_underlying Tryz.underlying95]
  rw [show (Array.mapM (fun (f : Field) => (do let x ← sizeOf f.type; pure (f.offset, x) : Sem (Nat × Nat))) #[{ name := "at", type := 3, offset := 0, embedded := false, tag := "", pkgPath := "armoire/disk", byteOffset := 0 }, { name := "s", type := 93, offset := 1, embedded := false, tag := "", pkgPath := "armoire/disk", byteOffset := 8 }]).run Tryz.prog w = .ok #[(0, 1), (1, 64)] w by kernel_rfl]
  simp only [Result.andThen_ok]
  rw [fill_two _ _ (.int .i64 n) (.agg C) 1 64 rfl rfl rfl hC zWt_size]
  rfl
theorem Tryz.infoWt : (Tryz.prog.info? 95).map (fun i => (i.zero, i.size, i.bytes)) = some (some (.agg (Array.replicate 65 undef |>.mapIdx fun i _ => if i = 0 then .int .i64 0 else .int .u8 0)), 65, 72) := by kernel_rfl
theorem slice_write (C : Array Value) (hC : C.size = 65) (w : World) : (Instr.buildSlice 89 1 #[(0, .agg C)]).run Tryz.prog w = .ok (.slice (some ⟨w.heap.size, 0, none⟩) 1 1) (w.alloc (.cells C 95)) := by
  obtain ⟨i, hi, hz, hs, hb⟩ := info_parts Tryz.infoWt
  refine run_buildSlice w _ _ 1 _ C i _ Tryz.underlying89 hi hz (by rw [hs]; decide) (by rw [hs]; decide) ?_
  rw [hs]
  refine (fill_one _ _ (.agg C) 65 (by simp) hC (by simp)).trans rfl
end Go.Proofs.YtnlhjhpikjmoaaaGreatDoor
