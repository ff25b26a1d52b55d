/- Plain laws: a product split, in both forms. -/
import Derived.Test.YtbmjglgpckfpjaaSsPu11
set_option linter.unusedVariables false
set_option linter.unusedSimpArgs false
