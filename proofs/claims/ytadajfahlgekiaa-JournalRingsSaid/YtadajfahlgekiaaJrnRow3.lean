/- The rings' law and its arguments. -/
import Derived.Test.YtadajfahlgekiaaJrnR
import Derived.Test.YtadajfahlgekiaaVLRows
