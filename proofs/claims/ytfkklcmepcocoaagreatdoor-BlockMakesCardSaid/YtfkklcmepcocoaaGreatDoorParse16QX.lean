/- internal/strconv.ParseUint(s, 16, 64), and strconv.ParseUint(s, 16, 64), by their contracts. -/
import Derived.Test.YtfkklcmepcocoaaGreatDoorNumNX
import Derived.Test.YtfkklcmepcocoaaGreatDoorMkaX
import Derived.Test.YtfkklcmepcocoaaGreatDoorBaseX
import Derived.Test.YtfkklcmepcocoaaGreatDoorChecked
import Derived.Lib.Strings
import Derived.Lib.Walk
import Derived.Lib.ConvBytes
import Derived.Lib.AtoiAllMem
import Derived.Laws.Strings3
import Derived.Laws.Closers25
import Derived.Laws.Closers25b
import Derived.Lib.AtoiErrMem
import Derived.Lib.ParseIntBMem
import Derived.BigCall
import Derived.BigGuard
namespace Go.Proofs.YtfkklcmepcocoaaGreatDoor
open Go.RowKit
set_option linter.unusedVariables false

end Go.Proofs.YtfkklcmepcocoaaGreatDoor
