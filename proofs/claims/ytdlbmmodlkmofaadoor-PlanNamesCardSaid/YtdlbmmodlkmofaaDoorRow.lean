/- What the rows of this seat share: the readings of their arguments. -/
import Derived.Test.YtdlbmmodlkmofaaDoorRows
import Derived.Test.YtdlbmmodlkmofaaDoorCards
import Derived.Test.YtdlbmmodlkmofaaDoorTie
import Derived.Test.YtdlbmmodlkmofaaDoorChecked
import Derived.Test.YtdlbmmodlkmofaaDoorPlB
import Derived.Test.YtdlbmmodlkmofaaDoorRg
import Derived.Test.YtdlbmmodlkmofaaDoorOps
import Derived.SevenTiedAt
import Derived.LaidMore
set_option maxRecDepth 20000
namespace Go.Proofs.YtdlbmmodlkmofaaDoor
open Go Go.Vc Go.RowKit Go.ChangeShapes Go.WideShapes Go.ChangeAt
theorem own : ownKnob Tryd.prog.godebug = none := by kernel_rfl
theorem laid : laidOutB Tryd.prog = true := by kernel_rfl
end Go.Proofs.YtdlbmmodlkmofaaDoor
