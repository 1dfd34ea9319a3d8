/- The last of the functional forms. -/
import Derived.Test.YtiggkhmopnhfaaaDoorG2
