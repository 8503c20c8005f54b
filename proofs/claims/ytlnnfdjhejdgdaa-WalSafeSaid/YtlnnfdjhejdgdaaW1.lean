/- The disk in memory: sectors, what waits. -/
import Derived.Test.YtlnnfdjhejdgdaaWp
import Derived.Test.YtlnnfdjhejdgdaaCmd
namespace Go.Proofs.Ytlnnfdjhejdgdaa
open Go.RowKit

theorem bs_len (l : List UInt8) : (bs l).length = l.length := by simp [bs]
/-- one sector's cells -/
def rSec : Rel (List UInt8) where
  sz := 64
  wt := 64
  rel _ _ cs s := cs = bs s ∧ s.length = 64
  len := by rintro ok w cs d ⟨rfl, h⟩; rw [bs_len]; exact h
  one := by rintro ok w cs d ⟨rfl, _⟩; exact bs_one _
  kp := fun _ h => h
  mono := fun _ h => h
/-- a write that waits -/
def rWt : Rel (Nat × List UInt8) where
  sz := 65
  wt := 72
  rel _ _ cs p := cs = .int .i64 (p.1 : Int) :: bs p.2 ∧ p.2.length = 64
  len := by rintro ok w cs d ⟨rfl, h⟩; rw [List.length_cons, bs_len, h]
  one := by
    rintro ok w cs d ⟨rfl, _⟩ u hu
    rcases List.mem_cons.1 hu with rfl | hu
    · rfl
    · exact bs_one _ u hu
  kp := fun _ h => h
  mono := fun _ h => h
/-- the cells of sectors, one behind the other -/
def secCells : List (List UInt8) → List Value
  | [] => []
  | s :: k => bs s ++ secCells k
theorem secCells_len : ∀ (k : List (List UInt8)), (∀ s ∈ k, s.length = 64) → (secCells k).length = k.length * 64
  | [], _ => rfl
  | s :: k, h => by
    rw [secCells, List.length_append, bs_len, h s (by simp), secCells_len k fun t ht => h t (List.mem_cons_of_mem _ ht), List.length_cons]
    omega
theorem secCells_get : ∀ (k : List (List UInt8)), (∀ s ∈ k, s.length = 64) → ∀ (i : Nat) (hi : i < k.length) (j : Nat), j < 64 → (secCells k)[i * 64 + j]? = (bs k[i])[j]?
  | s :: k, h, 0, _, j, hj => by
    rw [secCells, Nat.zero_mul, Nat.zero_add, List.getElem?_append_left (by rw [bs_len, h s (by simp)]; exact hj)]
    rfl
  | s :: k, h, i + 1, hi, j, hj => by
    have h0 := h s (by simp)
    rw [secCells, List.getElem?_append_right (by rw [bs_len, h0]; omega), bs_len, h0, show (i + 1) * 64 + j - 64 = i * 64 + j by omega]
    exact secCells_get k (fun t ht => h t (List.mem_cons_of_mem _ ht)) i (by simpa using hi) j hj
theorem secCells_split : ∀ (k : List (List UInt8)) (i : Nat) (hi : i < k.length) (s : List UInt8), secCells (k.set i s) = secCells (k.take i) ++ bs s ++ secCells (k.drop (i + 1))
  | t :: k, 0, _, s => by simp [secCells]
  | t :: k, i + 1, hi, s => by
    rw [List.set_cons_succ, List.take_succ_cons, List.drop_succ_cons, secCells, secCells, secCells_split k i (by simpa using hi) s]
    simp

/-- a disk in memory; ft: the blocks that it has -/
def DiskR (ft : Nat → Prop) (w : World) (g : Nat) (d : DskD) : Prop :=
  ∃ kb vw, Blk w g 62 #[.slice (some ⟨kb, 0, none⟩) d.kept.length d.kept.length, vw, .bool d.down, .int .i64 (d.armed : Int)] ∧ Blk w kb 84 (secCells d.kept).toArray ∧
    OwnL rWt (fun _ => False) 0 86 w vw d.wait ∧ kb ≠ g ∧ some g ≠ vw.ownBlock ∧ some kb ≠ vw.ownBlock ∧ ft g ∧ ft kb ∧ (∀ b, vw.ownBlock = some b → ft b) ∧ d.Ok ∧ 1 ≤ d.kept.length ∧ d.kept.length ≤ 65536 ∧ d.armed < 9223372036854775808 ∧ d.wait.length ≤ 1000000000
theorem DiskR.kp {ft ok : Nat → Prop} {w w' : World} {g : Nat} {d : DskD} (h : DiskR ft w g d) (hk : Kp ok w w') (hok : ∀ b, ft b → ok b) : DiskR ft w' g d := by
  obtain ⟨kb, vw, h1, h2, h3, h4, h5, h6, h7, h8, h9, h10⟩ := h
  exact ⟨kb, vw, h1.kp hk (hok _ h7), h2.kp hk (hok _ h8), h3.kp hk (fun _ h => h.elim) fun b hb => hok b (h9 b hb), h4, h5, h6, h7, h8, h9, h10⟩
theorem DiskR.below {ft : Nat → Prop} {w w' : World} {g : Nat} {d : DskD} (h : DiskR ft w g d) (hb : Below w.heap.size w w') : DiskR ft w' g d := h.kp (.of_below hb (ok := fun _ => True)) fun _ _ => trivial
theorem DiskR.mono {ft ft' : Nat → Prop} {w : World} {g : Nat} {d : DskD} (h : DiskR ft w g d) (hm : ∀ b, ft b → b < w.heap.size → ft' b) : DiskR ft' w g d := by
  obtain ⟨kb, vw, h1, h2, h3, h4, h5, h6, h7, h8, h9, h10⟩ := h
  exact ⟨kb, vw, h1, h2, h3, h4, h5, h6, hm _ h7 h1.lt, hm _ h8 h2.lt, fun b hb => hm b (h9 b hb) (h3.lt b hb).2, h10⟩
theorem DiskR.lt {ft : Nat → Prop} {w : World} {g : Nat} {d : DskD} (h : DiskR ft w g d) : g < w.heap.size := by
  obtain ⟨kb, vw, h1, _⟩ := h
  exact h1.lt
theorem DiskR.ft {ft : Nat → Prop} {w : World} {g : Nat} {d : DskD} (h : DiskR ft w g d) : ft g := by
  obtain ⟨kb, vw, h1, h2, h3, h4, h5, h6, h7, _⟩ := h
  exact h7
theorem DiskR.ok {ft : Nat → Prop} {w : World} {g : Nat} {d : DskD} (h : DiskR ft w g d) : d.Ok ∧ 1 ≤ d.kept.length ∧ d.kept.length ≤ 65536 ∧ d.armed < 9223372036854775808 ∧ d.wait.length ≤ 1000000000 := by
  obtain ⟨kb, vw, h1, h2, h3, h4, h5, h6, h7, h8, h9, h10⟩ := h
  exact h10
theorem dk_cells {w : World} {g : Nat} {T : TypeId} {a b c d : Value} (h : Blk w g T #[a, b, c, d]) : w.cell? ⟨g, 0, none⟩ = some a ∧ w.cell? ⟨g, 1, none⟩ = some b ∧ w.cell? ⟨g, 2, none⟩ = some c ∧ w.cell? ⟨g, 3, none⟩ = some d := ⟨h.cell 0, h.cell 1, h.cell 2, h.cell 3⟩
/-- a sector's cells in the kept ones -/
theorem sec_range {w : World} {kb : Nat} {T : TypeId} {k : List (List UInt8)} (h : Blk w kb T (secCells k).toArray) (hk : ∀ s ∈ k, s.length = 64) {i : Nat} (hi : i < k.length) : w.rangeAt kb (i * 64) (bs k[i]) := fun j v hv => by
  have hj : j < 64 := by
    have := (List.getElem?_eq_some_iff.1 hv).1
    rw [bs_len, hk _ (List.getElem_mem _)] at this
    exact this
  rw [h.cell (i * 64 + j), List.getElem?_toArray, secCells_get k hk i hi j hj]
  exact hv
end Go.Proofs.Ytlnnfdjhejdgdaa
