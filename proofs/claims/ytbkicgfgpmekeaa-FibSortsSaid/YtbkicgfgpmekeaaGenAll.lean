/-
  All texts that were printed.
-/
import Derived.Test.YtbkicgfgpmekeaaGenW
import Derived.Test.YtbkicgfgpmekeaaGen0
import Derived.Test.YtbkicgfgpmekeaaGen1
import Derived.Test.YtbkicgfgpmekeaaGen2
import Derived.Test.YtbkicgfgpmekeaaGen3
import Derived.Test.YtbkicgfgpmekeaaGen4
import Derived.Test.YtbkicgfgpmekeaaGen5
import Derived.Test.YtbkicgfgpmekeaaGen6
import Derived.Test.YtbkicgfgpmekeaaGen7
