/- slices.SortFunc over no extents. -/
import Derived.Test.YteodkepnalhceaaSortExt
import Derived.Shelf.SlSortCmp.NoneTotal
namespace Go.Proofs
open Go.RowKit Sc Go.Shelf

theorem sortExt_none (p : Option Addr) (cap : Nat) (fv : Value) (w : World) : Calls Try.prog 63 #[.slice p 0 cap, fv] w fun e w' => e = .returned (.tuple #[]) ∧ w' = w :=
  AnyF.slices_SortFunc_none { Try.sortExt with } p cap fv w
end Go.Proofs
