/- The reference's numberOf: it answers as block.number does. -/
import Derived.Test.YtpbgonpmpjpljaaGreatDoorMksX
import Derived.Test.YtpbgonpmpjpljaaGreatDoorMkuX
import Derived.Deep.DeepCutAuto
import Derived.Deep.Light
import Derived.Test.YtpbgonpmpjpljaaGreatDoorMkvX
namespace Go.Proofs.YtpbgonpmpjpljaaGreatDoor
open Go.RowKit
set_option linter.unusedVariables false

end Go.Proofs.YtpbgonpmpjpljaaGreatDoor

namespace Go.Proofs.YtpbgonpmpjpljaaGreatDoor
open Go.RowKit
set_option linter.unusedVariables false

end Go.Proofs.YtpbgonpmpjpljaaGreatDoor
