/- A dot as a row of five ints. No program. -/
import Derived.Test.YtjokodlappeapaaDoorMemR
namespace Go.Proofs.YtjokodlappeapaaDoor
open Go.RowKit
/-- a dot: prop, hand, x (two), y -/
abbrev Dot5 := Int × Int × Int × Int × Int
def rowD (x : Dot5) : List Value := [.int .i64 x.1, .int .i64 x.2.1, .int .i64 x.2.2.1, .int .i64 x.2.2.2.1, .int .i64 x.2.2.2.2]
theorem rowD_len (x : Dot5) : (rowD x).length = 5 := rfl
end Go.Proofs.YtjokodlappeapaaDoor
