/-
  All texts that were printed.
-/
import Derived.Test.YtiejdmkobmphfaaGenW
import Derived.Test.YtiejdmkobmphfaaGen0
import Derived.Test.YtiejdmkobmphfaaGen1
import Derived.Test.YtiejdmkobmphfaaGen2
import Derived.Test.YtiejdmkobmphfaaGen3
import Derived.Test.YtiejdmkobmphfaaGen4
import Derived.Test.YtiejdmkobmphfaaGen5
import Derived.Test.YtiejdmkobmphfaaGen6
import Derived.Test.YtiejdmkobmphfaaGen7
import Derived.Test.YtiejdmkobmphfaaGen8
import Derived.Test.YtiejdmkobmphfaaGen9
import Derived.Test.YtiejdmkobmphfaaGen10
