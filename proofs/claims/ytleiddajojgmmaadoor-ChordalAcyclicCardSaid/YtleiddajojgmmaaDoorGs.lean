/- All generated conditions. -/
import Derived.Test.YtleiddajojgmmaaDoorG0
import Derived.Test.YtleiddajojgmmaaDoorG1
