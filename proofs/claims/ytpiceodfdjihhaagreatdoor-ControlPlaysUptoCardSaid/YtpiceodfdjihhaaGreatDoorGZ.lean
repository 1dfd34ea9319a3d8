/- The last of the functional forms. -/
import Derived.Test.YtpiceodfdjihhaaGreatDoorG3
