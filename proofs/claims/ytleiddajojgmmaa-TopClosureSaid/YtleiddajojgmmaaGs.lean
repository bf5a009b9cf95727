/- All generated conditions. -/
import Derived.Test.YtleiddajojgmmaaG0
import Derived.Test.YtleiddajojgmmaaG1
import Derived.Test.YtleiddajojgmmaaG2
