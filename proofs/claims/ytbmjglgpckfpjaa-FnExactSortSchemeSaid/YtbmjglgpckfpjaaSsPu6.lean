/- Plain laws: sums of forms modulo p; the products without a factor 0; numbers of products. -/
import Derived.Test.YtbmjglgpckfpjaaSsPu3
import Derived.Test.YtbmjglgpckfpjaaSsB13
import Derived.Test.YtbmjglgpckfpjaaSsG1
set_option linter.unusedVariables false
set_option linter.unusedSimpArgs false
