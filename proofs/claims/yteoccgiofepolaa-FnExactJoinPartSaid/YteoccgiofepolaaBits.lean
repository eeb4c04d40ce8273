/- Lists of bits, of the reference. -/
import Derived.Test.YteoccgiofepolaaPlain
namespace Go.Proofs.Yteoccgiofepolaa
open Go.Aw
set_option maxRecDepth 100000
end Go.Proofs.Yteoccgiofepolaa
