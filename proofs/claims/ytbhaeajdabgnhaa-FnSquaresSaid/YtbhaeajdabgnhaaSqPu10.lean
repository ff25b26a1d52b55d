/- Plain laws: a flip's two forms are the same. -/
import Derived.Test.YtbhaeajdabgnhaaSqPu7
set_option linter.unusedVariables false
set_option linter.unusedSimpArgs false
