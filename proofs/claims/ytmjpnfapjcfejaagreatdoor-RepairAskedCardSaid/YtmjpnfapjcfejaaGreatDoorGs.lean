/- All generated conditions. -/
import Derived.Test.YtmjpnfapjcfejaaGreatDoorG0
import Derived.Test.YtmjpnfapjcfejaaGreatDoorG1
import Derived.Test.YtmjpnfapjcfejaaGreatDoorG2
import Derived.Test.YtmjpnfapjcfejaaGreatDoorGw
