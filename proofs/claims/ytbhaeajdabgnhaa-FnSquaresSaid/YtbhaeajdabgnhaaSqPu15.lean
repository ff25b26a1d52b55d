/- Plain laws: copies, comparisons and marks of lists of numbers. -/
import Derived.Test.YtbhaeajdabgnhaaSqPu16
set_option linter.unusedVariables false
set_option linter.unusedSimpArgs false
