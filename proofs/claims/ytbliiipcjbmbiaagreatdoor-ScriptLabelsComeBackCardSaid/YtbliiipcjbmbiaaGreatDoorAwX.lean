/- What is given to the rest of awake (this session's own). No condition. -/
import Derived.Test.YtbliiipcjbmbiaaGreatDoorAwA
import Derived.Test.YtbliiipcjbmbiaaGreatDoorAwB
import Derived.Test.YtbliiipcjbmbiaaGreatDoorAwT
import Derived.Test.YtbliiipcjbmbiaaGreatDoorAps
import Derived.Test.YtbliiipcjbmbiaaGreatDoorGvSrt
