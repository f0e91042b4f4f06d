/- All definitions. -/
import Derived.Test.YtiligfmembmapaaGreatDoorZQEvD

