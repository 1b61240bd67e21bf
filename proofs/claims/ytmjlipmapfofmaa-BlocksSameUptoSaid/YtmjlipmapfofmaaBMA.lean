/- Part of a proof of laws of the seat Ytmjlipmapfofmaa: functions' weakest preconditions, each checked by the kernel, contracts out of them, plain lemmas; no conditions. -/
import Derived.Test.YtmjlipmapfofmaaMMA
import Derived.Test.YtmjlipmapfofmaaMMB
import Derived.Test.YtmjlipmapfofmaaMMC
import Derived.Test.YtmjlipmapfofmaaMMD
set_option linter.unusedVariables false
set_option linter.unusedSimpArgs false
set_option linter.unusedSectionVars false
