/- Contract: rows.Owner, where it has an owner to tell. -/
import Derived.Test.YthjicmdmhmffmaaDoorR8
namespace Go.Proofs.YthjicmdmhmffmaaDoor
open Go.RowKit

/-- an entry's column is right -/
def OwnCol (t : TabD) (L K : List Val) (k : Int) (i : Nat) : Prop :=
  ∃ q : Nat, k = q ∧ ∃ (hq : q < t.cols.length) (hi : i < L.length), mayC t.cols[q] L[i] = true ∧ (idxI t.key q 0 = -1 ∨ ∃ j : Nat, idxI t.key q 0 = j ∧ ∃ hj : j < K.length, K[j] = L[i])

end Go.Proofs.YthjicmdmhmffmaaDoor
