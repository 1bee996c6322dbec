/- What the row's listed variables give a walk. -/
import Derived.Test.YtlehnlfgjadleaaDoorBod
import Derived.Test.YtlehnlfgjadleaaDoorRows
import Derived.ProofKit
import Derived.Stop.LaidErr
import Derived.Stop.ErrReads
import Derived.Stop.JoinedAt
namespace Go.Proofs.YtlehnlfgjadleaaDoor
open Go.RowKit

/-- The five variables, in the row's order. -/
def laid5 : List (String × DataW Unit) := [("math/bits.deBruijn32tab", Rows.laid_math_bits_deBruijn32tab), ("math/bits.deBruijn64tab", Rows.laid_math_bits_deBruijn64tab), ("internal/strconv.uint64pow10", Rows.laid_internal_strconv_uint64pow10), ("strconv.ErrRange", Rows.laid_strconv_ErrRange), ("strconv.ErrSyntax", Rows.laid_strconv_ErrSyntax)]
theorem pow_tab {H : Type} : (Rows.laid_internal_strconv_uint64pow10 : DataW H) = Lib.tabData .u64 Lib.pow10Tab := by
  unfold Rows.laid_internal_strconv_uint64pow10 Lib.tabData Lib.pow10Tab
  rfl
theorem star_err : "*" ++ "errors.errorString" = "*errors.errorString" := by decide
theorem row_err (u : TypeId) (h : Tryd.prog.typeName? 3 u = some "*errors.errorString") : u = 139 :=
  typeName_ptr_named (nm := "errors.errorString") (by rw [star_err]; kernel_rfl) (by kernel_rfl) (by decide) u (by rw [star_err]; exact h)
theorem tab_of {W : World} {rest : List (String × DataW Unit)} (h : laidMet Tryd.prog (("internal/strconv.uint64pow10", Rows.laid_internal_strconv_uint64pow10) :: rest) W) : Lib.TabIs Tryd.prog W "internal/strconv.uint64pow10" .u64 Lib.pow10Tab := by
  rw [pow_tab] at h
  exact Lib.tabIs_of_head named_pow (by kernel_rfl) Tryd.underlying108 Tryd.underlying95 (by kernel_rfl) (by kernel_rfl) h
theorem laidW_of {W : World} (h : laidMet Tryd.prog laid5 W) : LaidW W W.heap.size := by
  have h3 := h.tail.tail
  have hT := tab_of h3
  have h4 := h3.tail
  obtain ⟨a1, s1, hv1, _, _, _⟩ := laid_sentinel (n := "strconv.ErrRange") h4 (show Tryd.prog.globalNamed "strconv.ErrRange" = some 3 by kernel_rfl) (by kernel_rfl) Tryd.underlying79 row_err Tryd.underlying139 Tryd.underlying141 rfl rfl Tryd.underlying9 (by kernel_rfl) (by kernel_rfl)
  obtain ⟨a2, s2, hv2, _, _, _⟩ := laid_sentinel (n := "strconv.ErrSyntax") h4.tail (show Tryd.prog.globalNamed "strconv.ErrSyntax" = some 2 by kernel_rfl) (by kernel_rfl) Tryd.underlying79 row_err Tryd.underlying139 Tryd.underlying141 rfl rfl Tryd.underlying9 (by kernel_rfl) (by kernel_rfl)
  have c1 : W.cell? ⟨3, 0, none⟩ = some (.iface 139 (.pointer (some a1))) := by simpa using World.var?_cell (show Tryd.prog.globalNamed "strconv.ErrRange" = some 3 by kernel_rfl) hv1 0
  have c2 : W.cell? ⟨2, 0, none⟩ = some (.iface 139 (.pointer (some a2))) := by simpa using World.var?_cell (show Tryd.prog.globalNamed "strconv.ErrSyntax" = some 2 by kernel_rfl) hv2 0
  have c0 := hT.cell named_pow 0 (by decide)
  exact ⟨Nat.le_refl _, World.block_lt_of_cell? _ _ c0, World.block_lt_of_cell? _ _ c2, World.block_lt_of_cell? _ _ c1, hT, ⟨_, _, c2⟩, ⟨_, _, c1⟩⟩
theorem laidH_of {W : World} (h : laidMetH Tryd.prog laid5 W) : laidMet Tryd.prog laid5 W := h
end Go.Proofs.YtlehnlfgjadleaaDoor
