/- Contracts: slices.Clone, CopyBytes over data.
Contracts: slices.Clone, CopyBytes over data; split.pairs. -/
import Derived.Test.YtnlhjhpikjmoaaaGreatDoorC6
import Derived.Test.YtnlhjhpikjmoaaaGreatDoorRelT
import Derived.Test.YtnlhjhpikjmoaaaGreatDoorReg
import Derived.Outline
namespace Go.Proofs.YtnlhjhpikjmoaaaGreatDoor
open Go.RowKit

theorem OwnB.rb {base : Nat} {w : World} {A : Option Addr} {n c : Nat} {l : List UInt8} (h : OwnB base w A n c l) (hm : n ≤ 140737488351232) : RB (fun b => base ≤ b) w (.slice A n c) l := by
  refine RB.mk_ h.rd h.cap hm fun h0 a ha => ?_
  subst ha
  exact (World.ownsRow.lt h _ rfl).1

theorem clone_rb {ok : Nat → Prop} (v : Value) (l : List UInt8) (w : World) (hr : RB ok w v l) :
    Calls Tryz.prog 74 #[v] w fun e w' => (∃ v', e = .returned v' ∧ RB (fun b => w.heap.size ≤ b) w' v' l) ∧ Below w.heap.size w w' := by
  obtain ⟨A, c, rfl, hc, hm, hrd, _⟩ := hr.open_
  exact (clone_any A _ c l w hrd (by omega)).mono fun e w' ⟨⟨A', c', he, ho⟩, hb⟩ => ⟨⟨_, he, ho.rb hm⟩, hb⟩
theorem copy_rb {ok : Nat → Prop} (v : Value) (l : List UInt8) (w : World) (hr : RB ok w v l) :
    Calls Tryz.prog 26 #[v] w fun e w' => (∃ v', e = .returned v' ∧ RB (fun b => w.heap.size ≤ b) w' v' l) ∧ Below w.heap.size w w' := by
  obtain ⟨A, c, rfl, hc, hm, hrd, _⟩ := hr.open_
  exact (copy_any A _ c l w hrd (by omega)).mono fun e w' ⟨⟨A', c', he, ho⟩, hb⟩ => ⟨⟨_, he, ho.rb hm⟩, hb⟩

end Go.Proofs.YtnlhjhpikjmoaaaGreatDoor

namespace Go.Proofs.YtnlhjhpikjmoaaaGreatDoor
open Go.RowKit

end Go.Proofs.YtnlhjhpikjmoaaaGreatDoor
