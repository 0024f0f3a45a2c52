/- What the rows of this seat share: the readings of their arguments. -/
import Derived.Test.YtibpbbjlecohiaaRows
import Derived.Test.YtibpbbjlecohiaaChecked
import Derived.Test.YtibpbbjlecohiaaLaA
import Derived.Test.YtibpbbjlecohiaaRg
import Derived.Test.YtibpbbjlecohiaaOps
set_option maxRecDepth 20000
namespace Go.Proofs.Ytibpbbjlecohiaa
open Go Go.Vc Go.RowKit Go.ChangeShapes Go.WideShapes Go.ChangeAt
theorem own : ownKnob Try.prog.godebug = none := by kernel_rfl
theorem laid : laidOutB Try.prog = true := by kernel_rfl
end Go.Proofs.Ytibpbbjlecohiaa
