/-
  All texts that were printed.
-/
import Derived.Test.YtgnfbodlpolibaaGenW
import Derived.Test.YtgnfbodlpolibaaGen0
import Derived.Test.YtgnfbodlpolibaaGen1
import Derived.Test.YtgnfbodlpolibaaGen2
import Derived.Test.YtgnfbodlpolibaaGen3
import Derived.Test.YtgnfbodlpolibaaGen4
import Derived.Test.YtgnfbodlpolibaaGen5
import Derived.Test.YtgnfbodlpolibaaGen6
import Derived.Test.YtgnfbodlpolibaaGen7
import Derived.Test.YtgnfbodlpolibaaGen8
