/- All definitions. -/
import Derived.Test.YtnodjiikdgmeaaaGreatDoorZQAD
