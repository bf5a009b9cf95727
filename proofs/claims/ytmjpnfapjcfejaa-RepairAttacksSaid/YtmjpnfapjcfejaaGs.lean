/- All generated conditions. -/
import Derived.Test.YtmjpnfapjcfejaaG0
import Derived.Test.YtmjpnfapjcfejaaGw
