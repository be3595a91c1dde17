/- Proved here: the store's examples hold. Conditions: none. -/
import Derived.Test.YtkbheoganajhaaaDoorWs2
set_option maxRecDepth 100000
namespace Go.Proofs.YtkbheoganajhaaaDoor.Vm
open Go Go.Proofs
theorem slives_ok : L.pl 9 [] = some (.ret (.sc (.bool true))) := pl_calc 60 (by kernel_rfl)
end Go.Proofs.YtkbheoganajhaaaDoor.Vm
