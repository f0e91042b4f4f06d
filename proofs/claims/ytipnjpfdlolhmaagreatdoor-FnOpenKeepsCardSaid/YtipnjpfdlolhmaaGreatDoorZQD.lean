/- All definitions. -/
import Derived.Test.YtipnjpfdlolhmaaGreatDoorZQAD
