/- The arguments as they are read. -/
import Derived.Test.YtheiionmocfleaaDoorSort
import Derived.Test.YtheiionmocfleaaDoorAwake
import Derived.Test.YtheiionmocfleaaDoorCards
import Derived.Test.YtheiionmocfleaaDoorTie
import Derived.LaidLaws
import Derived.SevenTiedAt
namespace Go.Proofs.YtheiionmocfleaaDoor
namespace Pf
open Go Go.AI Go.Proofs
open Go.ChangeShapes Go.WideShapes Go.ChangeAt Go.RowKit
/-- A slice's value is one cell. -/
theorem slice_one {H : Type} {enc : TypeId × Value → H} {P : Program} {w : World} {t e : TypeId} {fuel : Nat} {v : Value} {x : DataW H × List MemPlace} (ht : P.underlying t = some (.slice e)) {W : World} {base : Nat} (hok : Value.okWide P W .any base t v)
    (h : DataW.trod enc P w 0 (fun _ => true) true fuel t v.cells.toList = some x) : v.cells.toList = [v] ∧ emb w v = embC w v := by
  rcases DataW.trod_slice ht h with ⟨h0, _⟩ | ⟨a, len, cap, _, _, _, _, h0, _⟩
  all_goals
    cases v
    case agg cs =>
      exfalso
      simp [Value.okWide, ht, Cell.okWide, Cell.ok] at hok
    all_goals first | exact ⟨rfl, rfl⟩ | skip
/-- All that the seat's laws lean on, sorting too. -/
theorem oracle26 (W : World) : OracleOk Tryd.prog (mkTab Tryd.prog Sat.gt) X W := sortNX_ok sorter26 (trueX_ok Tryd.checked.mixed Sat.aw W)
end Pf
end Go.Proofs.YtheiionmocfleaaDoor
