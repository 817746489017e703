/- The resolved code, all of it. -/
import Derived.Test.YtchbhhgnkcaegaaCodeA
import Derived.Test.YtchbhhgnkcaegaaCodeB
