/- Small laws on strings of bytes. -/
import Derived.Test.YtlehnlfgjadleaaDoorWords
namespace Go.Proofs.YtlehnlfgjadleaaDoor
open Go.RowKit

theorem ba_app (a b : List UInt8) : (⟨a.toArray⟩ : ByteArray) ++ ⟨b.toArray⟩ = ⟨(a ++ b).toArray⟩ := by
  ext1
  simp
end Go.Proofs.YtlehnlfgjadleaaDoor
