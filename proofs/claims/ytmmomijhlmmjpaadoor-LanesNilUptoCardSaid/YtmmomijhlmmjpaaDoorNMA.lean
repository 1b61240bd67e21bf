/- Part of a proof of laws of the seat YtmmomijhlmmjpaaDoor: functions' weakest preconditions, each checked by the kernel, contracts out of them, plain lemmas; no conditions. -/
import Derived.Test.YtmmomijhlmmjpaaDoorNM1
import Derived.Test.YtmmomijhlmmjpaaDoorNM2
import Derived.Test.YtmmomijhlmmjpaaDoorNM3
import Derived.Test.YtmmomijhlmmjpaaDoorNM4
set_option linter.unusedVariables false
set_option linter.unusedSimpArgs false
