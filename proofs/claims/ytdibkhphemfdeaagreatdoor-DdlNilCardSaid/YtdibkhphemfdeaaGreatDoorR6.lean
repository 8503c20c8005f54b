/- Contracts: rows.Pair, rows.Entry. -/
import Derived.Test.YtdibkhphemfdeaaGreatDoorR3
import Derived.Test.YtdibkhphemfdeaaGreatDoorC8
import Derived.Test.YtdibkhphemfdeaaGreatDoorReg
import Derived.Test.YtdibkhphemfdeaaGreatDoorDat
import Derived.Outline
namespace Go.Proofs.YtdibkhphemfdeaaGreatDoor
open Go.RowKit

/-- a row's pair -/
def pairV (t : TabD) (row : List Val) : List UInt8 × List UInt8 := if mayAll t.cols row && (encSpec row).2 == 0 then (nameB t (keyV t row), (encSpec row).1) else ([], [])

end Go.Proofs.YtdibkhphemfdeaaGreatDoor
