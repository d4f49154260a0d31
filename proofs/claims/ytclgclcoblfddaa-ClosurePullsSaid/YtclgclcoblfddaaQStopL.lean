/- ClosureStop, as a plain law. -/
import Derived.Test.YtclgclcoblfddaaQStop
namespace Go.Proofs.Ytclgclcoblfddaa
open Go.RowKit Go.Proofs.Ytclgclcoblfddaa.P Go.Proofs.YtclgclcoblfddaaW.PrintWords
set_option linter.unusedVariables false
set_option linter.unusedSimpArgs false
end Go.Proofs.Ytclgclcoblfddaa
