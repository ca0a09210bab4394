/- What calls of Go's library come to. -/
import Derived.Test.YtemfpnlpnmglfaaA24
import Derived.Shelf.Strings.Search3
set_option linter.unusedVariables false
set_option linter.unusedSimpArgs false
namespace Go.Am
open Go

def extContains : List AV → Option AV
  | [.str s, .str t] => if s.length < 4294967281 then some (.bool (Go.Lib.contains s t)) else none
  | _ => none

end Go.Am
