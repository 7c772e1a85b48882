import Derived.Test.YtmbokpfgnicboaaGreatBase
import Derived.Handy
set_option linter.unusedVariables false
set_option linter.unusedSimpArgs false
/- What a walk leaves: the blocks that were there are as they were. -/
namespace Go
open Go.RowKit
namespace Hd
theorem size_drewN (w : World) (n : Nat) : (w.drewN n).heap.size = w.heap.size := rfl
end Hd
end Go
