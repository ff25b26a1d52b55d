/- Plain laws: the flips of a scheme; walks by flips, in both forms. -/
import Derived.Test.YtbmjglgpckfpjaaEqPu12
set_option linter.unusedVariables false
set_option linter.unusedSimpArgs false
