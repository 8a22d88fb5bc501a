/-
  All texts that were printed.
-/
import Derived.Test.YtoeijcmpkfjbfaaGenW
import Derived.Test.YtoeijcmpkfjbfaaGen0
import Derived.Test.YtoeijcmpkfjbfaaGen1
import Derived.Test.YtoeijcmpkfjbfaaGen2
import Derived.Test.YtoeijcmpkfjbfaaGen3
import Derived.Test.YtoeijcmpkfjbfaaGen4
import Derived.Test.YtoeijcmpkfjbfaaGen5
import Derived.Test.YtoeijcmpkfjbfaaGen6
import Derived.Test.YtoeijcmpkfjbfaaGen7
