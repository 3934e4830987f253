/- strconv.FormatUint(v, 16) by its contract. -/
import Derived.Test.YtfkklcmepcocoaaGreatDoorMbitsP
import Derived.Test.YtfkklcmepcocoaaGreatDoorNumNP
import Derived.Test.YtfkklcmepcocoaaGreatDoorMkaP
import Derived.Test.YtfkklcmepcocoaaGreatDoorMkdP
import Derived.Test.YtfkklcmepcocoaaGreatDoorNLaysP
namespace Go.Proofs.YtfkklcmepcocoaaGreatDoor
open Go.RowKit
set_option linter.unusedVariables false

end Go.Proofs.YtfkklcmepcocoaaGreatDoor
