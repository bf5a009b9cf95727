/- Nothing. -/
import Derived.Test.YtleiddajojgmmaaGs
