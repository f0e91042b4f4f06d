/- All equations. -/
import Derived.Test.YtiligfmembmapaaGreatDoorZQEv1
import Derived.Test.YtiligfmembmapaaGreatDoorZQEv2
import Derived.Test.YtiligfmembmapaaGreatDoorZQEv3

