/- All definitions. -/
import Derived.Test.YthbkdfcmjmmpgaaGreatDoorZQAD
