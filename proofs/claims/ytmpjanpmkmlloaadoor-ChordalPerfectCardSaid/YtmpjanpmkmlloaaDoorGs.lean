/- All generated conditions. -/
import Derived.Test.YtmpjanpmkmlloaaDoorG0
import Derived.Test.YtmpjanpmkmlloaaDoorG1
import Derived.Test.YtmpjanpmkmlloaaDoorG2
import Derived.Test.YtmpjanpmkmlloaaDoorG3
import Derived.Test.YtmpjanpmkmlloaaDoorG4
