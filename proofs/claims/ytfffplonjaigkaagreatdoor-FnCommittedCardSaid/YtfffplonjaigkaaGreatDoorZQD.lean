/- All definitions. -/
import Derived.Test.YtfffplonjaigkaaGreatDoorZQAD
