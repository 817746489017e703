/- Walks: the reference's First. -/
import Derived.Test.YtdiemjjfkoccfaaGreatDoorYB
set_option linter.unusedVariables false
set_option linter.unusedSimpArgs false
set_option linter.unnecessarySimpa false
