/- Plain law: a grammar with one rule less. -/
import Derived.Test.YtdiemjjfkoccfaaGreatDoorXA
set_option linter.unusedVariables false
set_option linter.unusedSimpArgs false
set_option linter.unnecessarySimpa false
