import Derived.SizedLaws
import Derived.ChangeSlices
namespace Go.Proofs.YtpnfhddcnnoclaaW.PrintWords
open Go.ChangeShapes Go.WideShapes
end Go.Proofs.YtpnfhddcnnoclaaW.PrintWords
