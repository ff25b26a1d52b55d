/- Words of this seat's own: cuts of arrays; the library's sort of an own slice, by its contract on the shelf. -/
import Derived.Test.YtbhaeajdabgnhaaCsB20
import Derived.Shelf.SlSortCmp.NoneTotal
set_option linter.unusedVariables false
set_option linter.unusedSimpArgs false
set_option linter.unusedSectionVars false
