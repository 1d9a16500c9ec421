/- Contracts of the closure's functions: lists of visibilities. -/
import Derived.Test.YtaaijmojlodefaaCr
import Derived.Test.YtaaijmojlodefaaPlCxm
namespace Go.Pv
open Go.Vc
open Go.Proofs
set_option maxRecDepth 10000

end Go.Pv
