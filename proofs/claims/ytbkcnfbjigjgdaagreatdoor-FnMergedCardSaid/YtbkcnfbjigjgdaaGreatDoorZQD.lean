/- All definitions. -/
import Derived.Test.YtbkcnfbjigjgdaaGreatDoorZQAD

