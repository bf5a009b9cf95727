/- All generated conditions. -/
import Derived.Test.YtmjpnfapjcfejaaDoorG0
import Derived.Test.YtmjpnfapjcfejaaDoorG1
import Derived.Test.YtmjpnfapjcfejaaDoorGw
