/- The resolved code, all of it. -/
import Derived.Test.YtbijnfhclfimeaaDoorCodeA
import Derived.Test.YtbijnfhclfimeaaDoorCodeB
