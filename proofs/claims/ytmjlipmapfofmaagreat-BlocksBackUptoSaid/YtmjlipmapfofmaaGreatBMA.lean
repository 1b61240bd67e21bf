/- Part of a proof; no conditions. -/
import Derived.Test.YtmjlipmapfofmaaGreatMMA
import Derived.Test.YtmjlipmapfofmaaGreatMMB
import Derived.Test.YtmjlipmapfofmaaGreatMMC
import Derived.Test.YtmjlipmapfofmaaGreatMMD
set_option linter.unusedVariables false
set_option linter.unusedSimpArgs false
set_option linter.unusedSectionVars false
