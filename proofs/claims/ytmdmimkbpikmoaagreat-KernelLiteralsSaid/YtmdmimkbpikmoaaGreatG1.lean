/- closure, Nullable, Productive, Trim of the program. -/
import Derived.Test.YtmdmimkbpikmoaaGreatZFa
namespace Go.Proofs.YtmdmimkbpikmoaaGreat
set_option linter.unusedSimpArgs false
set_option linter.unusedVariables false
set_option maxRecDepth 20000
open Go.RowKit Am Ty
abbrev bD:Value:=.slice none 0 0
end Go.Proofs.YtmdmimkbpikmoaaGreat
