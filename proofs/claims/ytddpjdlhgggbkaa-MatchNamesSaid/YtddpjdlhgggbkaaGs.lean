/- All generated conditions. -/
import Derived.Test.YtddpjdlhgggbkaaG0
import Derived.Test.YtddpjdlhgggbkaaG1
import Derived.Test.YtddpjdlhgggbkaaG2
