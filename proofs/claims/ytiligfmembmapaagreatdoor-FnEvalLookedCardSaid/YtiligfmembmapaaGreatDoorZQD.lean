/- All definitions. -/
import Derived.Test.YtiligfmembmapaaGreatDoorZQAD

