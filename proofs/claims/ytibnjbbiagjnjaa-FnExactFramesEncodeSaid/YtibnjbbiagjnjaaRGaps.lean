/- Contracts of the gaps of a set, the program's and the reference's. No condition but that the slice reads as the list. -/
import Derived.Test.YtibnjbbiagjnjaaRValid
import Derived.Test.YtibnjbbiagjnjaaRStep
namespace Go.Proofs.Ytibnjbbiagjnjaa
open Go.RowKit
/-- The call gives a slice of its own that reads as rs. -/
def RowPost (w : World) (rs : List Rg) (e : Ending) (w' : World) : Prop := ∃ A c, e = .returned (.slice A rs.length c) ∧ OwnRs w' w.heap.size A c rs ∧ Below w.heap.size w w'
end Go.Proofs.Ytibnjbbiagjnjaa
