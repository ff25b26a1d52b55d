/- Plain laws: scaled schemes, in both forms. -/
import Derived.Test.YtbmjglgpckfpjaaEqPu31
import Derived.Test.YtbmjglgpckfpjaaEqG2
import Derived.Test.YtbmjglgpckfpjaaEqG1
set_option linter.unusedVariables false
set_option linter.unusedSimpArgs false
