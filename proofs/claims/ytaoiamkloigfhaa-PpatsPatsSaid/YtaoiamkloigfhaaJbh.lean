/- A text of this proof. -/
import Derived.Test.YtaoiamkloigfhaaJbd
import Derived.Test.YtaoiamkloigfhaaJbg

/- patterns: both statements -/
