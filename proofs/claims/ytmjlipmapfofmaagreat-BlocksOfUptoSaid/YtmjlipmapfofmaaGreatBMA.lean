/- Part of a proof of laws of the seat YtmjlipmapfofmaaGreat: functions' weakest preconditions, each checked by the kernel, contracts out of them, plain lemmas; no conditions. -/
import Derived.Test.YtmjlipmapfofmaaGreatMMA
import Derived.Test.YtmjlipmapfofmaaGreatMMB
import Derived.Test.YtmjlipmapfofmaaGreatMMC
import Derived.Test.YtmjlipmapfofmaaGreatMMD
set_option linter.unusedVariables false
set_option linter.unusedSimpArgs false
set_option linter.unusedSectionVars false
