/- All generated conditions. -/
import Derived.Test.YtmjpnfapjcfejaaG0
