/- Words of this seat's own: the greatest of three numbers. -/
import Derived.Test.YtbhaeajdabgnhaaCsB21
import Derived.Laws.Cover1
set_option linter.unusedVariables false
set_option linter.unusedSimpArgs false
set_option linter.unusedSectionVars false
