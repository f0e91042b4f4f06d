/- All definitions. -/
import Derived.Test.YtddiiceaindlhaaGreatDoorZQAD
