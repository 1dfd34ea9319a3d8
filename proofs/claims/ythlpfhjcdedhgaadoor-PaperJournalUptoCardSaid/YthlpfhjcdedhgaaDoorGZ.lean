/- The last of the functional forms. -/
import Derived.Test.YthlpfhjcdedhgaaDoorG1
