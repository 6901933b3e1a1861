import Derived.Test.YtpnfhddcnnoclaaWInv
import Derived.Test.YtpnfhddcnnoclaaWFootNe
namespace Go.Proofs.YtpnfhddcnnoclaaW.PrintWords
open Go.RowKit
end Go.Proofs.YtpnfhddcnnoclaaW.PrintWords
namespace Go.Proofs.YtpnfhddcnnoclaaW.PrintLast
section
variable {ops : Array Oper} {a : Act} {o og : Oper} {g : Nat} {t : Tmp} {u : Bool}
end
end Go.Proofs.YtpnfhddcnnoclaaW.PrintLast
