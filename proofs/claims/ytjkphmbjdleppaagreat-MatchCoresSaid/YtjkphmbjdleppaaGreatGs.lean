/- All generated conditions. -/
import Derived.Test.YtjkphmbjdleppaaGreatG0
import Derived.Test.YtjkphmbjdleppaaGreatG1
import Derived.Test.YtjkphmbjdleppaaGreatG2
