/-
  The acts that are laid, out of the row's own condition.
-/
import Derived.Test.YtmceappjldcbmaaGreatDoorServeN
import Derived.Test.YtmceappjldcbmaaGreatDoorRows
import Derived.LaidMore
import Derived.MakeChecks
import Derived.Lib.LaidTab
import Derived.Stop.LaidErr
namespace Go.Proofs.YtmceappjldcbmaaGreatDoor
open Go.RowKit
namespace serve
theorem plain_start {w : World} (hL : laidMetH Tryz.prog Rows.topFetchRow.laid w) : Holds w w [PlainR] := by
  rw [MakeChecks.laidMetH_plain _ _ _ (by kernel_rfl)] at hL
  have t : Lib.TabIs Tryz.prog w "packthread/serve.plain" .i64 [0, 0, 0, 0, 0, 6, 7, 1, 8, 9, 10] :=
    Lib.tabIs_of_head (g := plainG) (t := 83) (e := 3) (n := 11) (by kernel_rfl) (by kernel_rfl) (by kernel_rfl) (by kernel_rfl) (by kernel_rfl) (by kernel_rfl) (laidMet.tail hL)
  refine Laid.start fun i v hv => ?_
  have hi : i < 11 := by
    have := (List.getElem?_eq_some_iff.1 hv).1
    exact this
  have hc := t.cell (g := plainG) (by kernel_rfl) i hi
  rw [hc, ← hv]
  match i, hi with
  | 0, _ | 1, _ | 2, _ | 3, _ | 4, _ | 5, _ | 6, _ | 7, _ | 8, _ | 9, _ | 10, _ => rfl
end serve
end Go.Proofs.YtmceappjldcbmaaGreatDoor
