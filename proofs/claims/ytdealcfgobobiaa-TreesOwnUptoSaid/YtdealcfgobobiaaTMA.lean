/- Part of a proof of laws of the seat Ytdealcfgobobiaa: functions' weakest preconditions, each checked by the kernel, contracts out of them, plain lemmas; no conditions. -/
import Derived.Test.YtdealcfgobobiaaTM1
import Derived.Test.YtdealcfgobobiaaTM2
import Derived.Test.YtdealcfgobobiaaTM3
import Derived.Test.YtdealcfgobobiaaTM4
import Derived.Test.YtdealcfgobobiaaTM5
import Derived.Test.YtdealcfgobobiaaTM6
import Derived.Test.YtdealcfgobobiaaTM7
import Derived.Test.YtdealcfgobobiaaTM8
set_option linter.unusedVariables false
set_option linter.unusedSimpArgs false
