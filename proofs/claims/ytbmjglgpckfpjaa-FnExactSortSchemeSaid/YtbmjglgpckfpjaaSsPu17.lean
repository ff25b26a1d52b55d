/- Plain laws: normal lists; which multiple a form is; two products made one. -/
import Derived.Test.YtbmjglgpckfpjaaSsPu16
import Derived.Test.YtbmjglgpckfpjaaSsG1
set_option linter.unusedVariables false
set_option linter.unusedSimpArgs false
