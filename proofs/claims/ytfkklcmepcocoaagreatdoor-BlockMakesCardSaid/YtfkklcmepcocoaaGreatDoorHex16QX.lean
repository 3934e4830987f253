/- strconv.FormatUint(v, 16) by its contract. -/
import Derived.Test.YtfkklcmepcocoaaGreatDoorMbitsX
import Derived.Test.YtfkklcmepcocoaaGreatDoorNumNX
import Derived.Test.YtfkklcmepcocoaaGreatDoorMkaX
import Derived.Test.YtfkklcmepcocoaaGreatDoorMkdX
import Derived.Test.YtfkklcmepcocoaaGreatDoorNLaysX
namespace Go.Proofs.YtfkklcmepcocoaaGreatDoor
open Go.RowKit
set_option linter.unusedVariables false

end Go.Proofs.YtfkklcmepcocoaaGreatDoor
