/- The last of the functional forms. -/
import Derived.Test.YtojnickeblbgoaaDoorG1
