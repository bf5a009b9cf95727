/- All generated conditions. -/
import Derived.Test.YtmpjanpmkmlloaaDoorG0
import Derived.Test.YtmpjanpmkmlloaaDoorG1
import Derived.Test.YtmpjanpmkmlloaaDoorG2
import Derived.Test.YtmpjanpmkmlloaaDoorG3
import Derived.Test.YtmpjanpmkmlloaaDoorG4
import Derived.Test.YtmpjanpmkmlloaaDoorG5
import Derived.Test.YtmpjanpmkmlloaaDoorG6
import Derived.Test.YtmpjanpmkmlloaaDoorG7
import Derived.Test.YtmpjanpmkmlloaaDoorG8
import Derived.Test.YtmpjanpmkmlloaaDoorG9
import Derived.Test.YtmpjanpmkmlloaaDoorG10
import Derived.Test.YtmpjanpmkmlloaaDoorG11
import Derived.Test.YtmpjanpmkmlloaaDoorG12
import Derived.Test.YtmpjanpmkmlloaaDoorG13
import Derived.Test.YtmpjanpmkmlloaaDoorGz
