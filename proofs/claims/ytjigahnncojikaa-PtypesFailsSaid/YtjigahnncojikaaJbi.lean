/- A text of this proof. -/
import Derived.Test.YtjigahnncojikaaJbf
import Derived.Test.YtjigahnncojikaaJbh

/- types: the statements of what is read, and of failures -/
