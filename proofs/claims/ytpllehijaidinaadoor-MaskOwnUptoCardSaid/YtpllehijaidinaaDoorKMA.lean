/- Part of a proof of laws of the seat YtpllehijaidinaaDoor: functions' weakest preconditions, each checked by the kernel, contracts out of them, plain lemmas; no conditions. -/
import Derived.Test.YtpllehijaidinaaDoorKM1
import Derived.Test.YtpllehijaidinaaDoorKM2
import Derived.Test.YtpllehijaidinaaDoorKM3
import Derived.Test.YtpllehijaidinaaDoorKM4
import Derived.Test.YtpllehijaidinaaDoorKM5
import Derived.Test.YtpllehijaidinaaDoorKM6
import Derived.Test.YtpllehijaidinaaDoorKM7
import Derived.Test.YtpllehijaidinaaDoorKM8
set_option linter.unusedVariables false
set_option linter.unusedSimpArgs false
