/-
  All texts that were printed.
-/
import Derived.Test.YtmabiogngbkhhaaGenW
import Derived.Test.YtmabiogngbkhhaaGen0
import Derived.Test.YtmabiogngbkhhaaGen1
import Derived.Test.YtmabiogngbkhhaaGen2
import Derived.Test.YtmabiogngbkhhaaGen3
import Derived.Test.YtmabiogngbkhhaaGen4
import Derived.Test.YtmabiogngbkhhaaGen5
import Derived.Test.YtmabiogngbkhhaaGen6
import Derived.Test.YtmabiogngbkhhaaGen7
import Derived.Test.YtmabiogngbkhhaaGen8
import Derived.Test.YtmabiogngbkhhaaGen9
import Derived.Test.YtmabiogngbkhhaaGen10
