import Derived.Test.YtmbokpfgnicboaaGreatBase
import Derived.Test.YtmbokpfgnicboaaGreatProg
set_option linter.unusedVariables false
set_option linter.unusedSimpArgs false
/- What the program says of some types. -/
namespace Go.Proofs.YtmbokpfgnicboaaGreat
open Go.RowKit Go.Hd _root_.Hd
theorem infoU8 : (Tryz.prog.info? 5).map (fun i => (i.zero, i.size, i.bytes)) = some (some (.int .u8 0), 1, 1) := by kernel_rfl
theorem infoBytes : (Tryz.prog.info? 30).map (fun i => (i.zero, i.size, i.bytes)) = some (some (.slice none 0 0), 1, 24) := by kernel_rfl
end Go.Proofs.YtmbokpfgnicboaaGreat
