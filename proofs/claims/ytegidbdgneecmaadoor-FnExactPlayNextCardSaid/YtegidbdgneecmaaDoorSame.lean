/- Two plays are equal: by the laws' own test. -/
import Derived.Test.YtegidbdgneecmaaDoorPlayMem
namespace Go.Proofs.YtegidbdgneecmaaDoor
open Go.RowKit

end Go.Proofs.YtegidbdgneecmaaDoor
