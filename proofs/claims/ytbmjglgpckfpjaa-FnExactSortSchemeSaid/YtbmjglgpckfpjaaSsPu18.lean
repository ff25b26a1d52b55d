/- Plain laws: one step of reducing, in both forms; all of them. -/
import Derived.Test.YtbmjglgpckfpjaaSsPu17
set_option linter.unusedVariables false
set_option linter.unusedSimpArgs false
