/- All generated conditions. -/
import Derived.Test.YtjkphmbjdleppaaG0
import Derived.Test.YtjkphmbjdleppaaG1
import Derived.Test.YtjkphmbjdleppaaG2
import Derived.Test.YtjkphmbjdleppaaG3
