/- The last of the functional forms that this claim needs. -/
import Derived.Test.YtojnickeblbgoaaGreatDoorG2
