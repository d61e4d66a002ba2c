/- l2Put of the reference (PutM) beside the pebbles. No condition. -/
import Derived.Test.YtfbmpkdjhhcnpaaGreatSnP10
import Derived.Test.YtfbmpkdjhhcnpaaGreatSnP08

