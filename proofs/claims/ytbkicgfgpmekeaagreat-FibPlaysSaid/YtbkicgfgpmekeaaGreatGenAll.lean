/-
  All texts that were printed.
-/
import Derived.Test.YtbkicgfgpmekeaaGreatGenW
import Derived.Test.YtbkicgfgpmekeaaGreatGen0
import Derived.Test.YtbkicgfgpmekeaaGreatGen1
import Derived.Test.YtbkicgfgpmekeaaGreatGen2
import Derived.Test.YtbkicgfgpmekeaaGreatGen3
import Derived.Test.YtbkicgfgpmekeaaGreatGen4
import Derived.Test.YtbkicgfgpmekeaaGreatGen5
import Derived.Test.YtbkicgfgpmekeaaGreatGen6
