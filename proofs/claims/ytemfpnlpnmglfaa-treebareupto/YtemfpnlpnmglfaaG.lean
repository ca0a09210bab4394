/- A text of the proof: made by program. -/
import Derived.Test.YtemfpnlpnmglfaaG2
import Derived.Test.YtemfpnlpnmglfaaG3
set_option linter.unusedVariables false
set_option linter.unusedSimpArgs false
