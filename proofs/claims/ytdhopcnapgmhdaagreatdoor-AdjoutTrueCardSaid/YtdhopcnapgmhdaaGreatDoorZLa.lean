/-
  Contracts of the library, laid at this program.
-/
import Derived.Test.YtdhopcnapgmhdaaGreatDoorZLl
set_option linter.unusedSimpArgs false
set_option linter.unusedVariables false
set_option linter.unusedSectionVars false
