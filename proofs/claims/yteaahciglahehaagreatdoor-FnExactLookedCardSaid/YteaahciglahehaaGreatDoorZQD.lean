/- All definitions. -/
import Derived.Test.YteaahciglahehaaGreatDoorZQAD
