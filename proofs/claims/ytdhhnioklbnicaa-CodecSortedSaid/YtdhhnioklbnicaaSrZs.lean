/-
  Sorted's values are strings.
-/
import Derived.Test.YtdhhnioklbnicaaSrK
set_option linter.unusedSimpArgs false
set_option linter.unusedVariables false
set_option linter.unnecessarySimpa false
namespace Go.Proofs.Ytdhhnioklbnicaa
open Go.RowKit
abbrev zS : Value := .string { data := #[] }
theorem zeroS (w : World) : (zeroValue 9).run Try.prog w = .ok zS w := Try.zeroValue9 w
theorem undS : Try.prog.underlying 92 = some (.map 3 9) := Try.underlying92
end Go.Proofs.Ytdhhnioklbnicaa
