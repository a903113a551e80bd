/- The numbers of functions that the model stands in for. Conditions: none. -/
import Derived.Test.YthmlkdflhnjhcaaFs
set_option linter.unusedVariables false
