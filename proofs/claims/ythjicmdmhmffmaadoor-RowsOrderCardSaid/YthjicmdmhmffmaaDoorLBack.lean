/- RowsBack's walk. -/
import Derived.Test.YthjicmdmhmffmaaDoorR12
import Derived.Test.YthjicmdmhmffmaaDoorR11
import Derived.Test.YthjicmdmhmffmaaDoorC3
import Derived.Test.YthjicmdmhmffmaaDoorRegE
namespace Go.Proofs.YthjicmdmhmffmaaDoor
open Go.RowKit

/-- a block's cells of a table -/
theorem tab_cells {w : World} {g : Nat} {T : TypeId} {t : TabD} {a b : Value} (h : Blk w g T (tabCs t a b)) : w.cell? ⟨g, 0, none⟩ = some (.int .i64 t.id) ∧ w.cell? ⟨g, 1, none⟩ = some (.string t.name) ∧ w.cell? ⟨g, 2, none⟩ = some a ∧ w.cell? ⟨g, 3, none⟩ = some b := ⟨h.cell 0, h.cell 1, h.cell 2, h.cell 3⟩
theorem idx_cells {w : World} {g : Nat} {T : TypeId} {x : IdxD} {a : Value} (h : Blk w g T (idxCs x a)) : w.cell? ⟨g, 0, none⟩ = some (.int .i64 x.id) ∧ w.cell? ⟨g, 1, none⟩ = some (.int .i64 x.table) ∧ w.cell? ⟨g, 2, none⟩ = some (.string x.name) ∧ w.cell? ⟨g, 3, none⟩ = some a ∧ w.cell? ⟨g, 4, none⟩ = some (.bool x.uniq) ∧ w.cell? ⟨g, 5, none⟩ = some (.int .i64 x.state) ∧ w.cell? ⟨g, 6, none⟩ = some (.bool x.bad) := ⟨h.cell 0, h.cell 1, h.cell 2, h.cell 3, h.cell 4, h.cell 5, h.cell 6⟩
theorem tab_laters {w : World} {g : Nat} {T : TypeId} {t : TabD} {a b : Value} (h : Blk w g T (tabCs t a b)) : (∀ s : Later w, s.val.cell? ⟨g, 0, none⟩ = some (.int .i64 t.id)) ∧ (∀ s : Later w, s.val.cell? ⟨g, 1, none⟩ = some (.string t.name)) ∧ (∀ s : Later w, s.val.cell? ⟨g, 2, none⟩ = some a) ∧ ∀ s : Later w, s.val.cell? ⟨g, 3, none⟩ = some b := ⟨h.later rfl, h.later rfl, h.later rfl, h.later rfl⟩
theorem idx_laters {w : World} {g : Nat} {T : TypeId} {x : IdxD} {a : Value} (h : Blk w g T (idxCs x a)) : (∀ s : Later w, s.val.cell? ⟨g, 0, none⟩ = some (.int .i64 x.id)) ∧ (∀ s : Later w, s.val.cell? ⟨g, 1, none⟩ = some (.int .i64 x.table)) ∧ (∀ s : Later w, s.val.cell? ⟨g, 2, none⟩ = some (.string x.name)) ∧ (∀ s : Later w, s.val.cell? ⟨g, 3, none⟩ = some a) ∧ (∀ s : Later w, s.val.cell? ⟨g, 4, none⟩ = some (.bool x.uniq)) ∧ (∀ s : Later w, s.val.cell? ⟨g, 5, none⟩ = some (.int .i64 x.state)) ∧ ∀ s : Later w, s.val.cell? ⟨g, 6, none⟩ = some (.bool x.bad) := ⟨h.later rfl, h.later rfl, h.later rfl, h.later rfl, h.later rfl, h.later rfl, h.later rfl⟩

/-- a pair by value -/
def Sp.pair (ok : Nat → Prop) (p : List UInt8 × List UInt8) : Sp :=
  ⟨fun x => ∃ A c A2 c2, x = .agg #[.slice A p.1.length c, .slice A2 p.2.length c2, .int .i64 0], .agg #[.slice none p.1.length 0, .slice none p.2.length 0, .int .i64 0], ⟨none, 0, none, 0, rfl⟩,
    fun x w => ∃ A c A2 c2, x = .agg #[.slice A p.1.length c, .slice A2 p.2.length c2, .int .i64 0] ∧ RB ok w (.slice A p.1.length c) p.1 ∧ RB ok w (.slice A2 p.2.length c2) p.2,
    fun _ _ ⟨A, c, A2, c2, h, _⟩ => ⟨A, c, A2, c2, h⟩, fun _ _ _ hb ⟨A, c, A2, c2, h, h1, h2⟩ => ⟨A, c, A2, c2, h, h1.below hb, h2.below hb⟩⟩

/-- bytes that are read lie in no block of a pair -/
theorem rb_apart {ok : Nat → Prop} {w : World} {v : Value} {l : List UInt8} {g : Nat} {T : TypeId} {cs : Array Value} (h : RB ok w v l) (hk : Blk w g T cs) (hcs : ∀ (i : Nat) (z : Int), cs[i]? ≠ some (Value.int .u8 z)) : RB (fun b => ok b ∧ b ≠ g) w v l := by
  obtain ⟨A, c, rfl, hc, hm, hr, ho⟩ := h.open_
  refine RB.mk_ hr hc hm fun h0 a ha => ⟨ho h0 a ha, fun hb => ?_⟩
  obtain ⟨b, off, rfl, hcell⟩ := hr.2 h0
  obtain rfl := Option.some.inj ha
  simp only at hb
  subst hb
  have h1 := hcell 0 _ (bs_get l 0 h0)
  have h2 := hk.cell off
  rw [Nat.add_zero] at h1
  rw [h1] at h2
  exact hcs off _ h2.symm
theorem pair_no (a b : Value) (n : Int) (ha : ∀ z : Int, a ≠ Value.int .u8 z) (hb : ∀ z : Int, b ≠ Value.int .u8 z) : ∀ (i : Nat) (z : Int), (#[a, b, .int .i64 n] : Array Value)[i]? ≠ some (Value.int .u8 z)
  | 0, z => by simpa using ha z
  | 1, z => by simpa using hb z
  | 2, z => by simp
  | _ + 3, z => by simp

end Go.Proofs.YthjicmdmhmffmaaDoor
