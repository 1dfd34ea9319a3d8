/-
  All functional forms of this seat.
-/
import Derived.Test.YtiggkhmopnhfaaaDoorG2
