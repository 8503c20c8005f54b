/- Contracts: rows.May, Right, pick, Fits; the document's may, Right, pick.
Contracts: the document's Right; rows.pick and the document's. -/
import Derived.Test.YtdibkhphemfdeaaGreatDoorRelT
namespace Go.Proofs.YtdibkhphemfdeaaGreatDoor
open Go.RowKit

/-- where a box's cell is, later -/
theorem box_at {w wr : World} {cs : Array Value} {T : TypeId} {i : Nat} {u : Value} (hb : Below (w.heap.size + 1) (w.alloc (.cells cs T)) wr) (h : cs[i]? = some u) : wr.cell? ⟨w.heap.size, i, none⟩ = some u :=
  (hb.cell (p := ⟨w.heap.size, i, none⟩) (by simp)).trans (by simpa using h)
theorem box_below {w wr : World} {o : Obj} (hb : Below (w.heap.size + 1) (w.alloc o) wr) : Below w.heap.size w wr := ((Below.refl _ _).alloc (Nat.le_refl _) _).trans (hb.mono (by omega))

end Go.Proofs.YtdibkhphemfdeaaGreatDoor

namespace Go.Proofs.YtdibkhphemfdeaaGreatDoor
open Go.RowKit

theorem Tryz.rowVal : RowTy Tryz.prog 52 101 3 32 := rowTy_mk Tryz.underlying52 (by kernel_rfl)

/-- a list of one's own, of values, read -/
theorem OwnL.rv {okd : Nat → Prop} {base : Nat} {T : TypeId} {w : World} {v : Value} {l : List Val} (h : OwnL rVal okd base T w v l) (hb : l.length ≤ 4398046510976) (hd : ∀ b, okd b → base ≤ b) : RV (fun b => base ≤ b) w v l :=
  h.rsl (by decide) (by show l.length * 32 ≤ _; omega) (fun _ h => h) hd

end Go.Proofs.YtdibkhphemfdeaaGreatDoor
