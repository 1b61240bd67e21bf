/- Part of a proof; no conditions. -/
import Derived.Test.YtmjlipmapfofmaaGreatBMA
set_option linter.unusedVariables false
set_option linter.unusedSimpArgs false
set_option linter.unusedSectionVars false
