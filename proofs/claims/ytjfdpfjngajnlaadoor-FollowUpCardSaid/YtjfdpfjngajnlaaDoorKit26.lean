/-
  THE KIT OF MY OWN, TWENTY-SIXTH PART: a piece of a row of one's own, read while the row stays whole. Over any program; no condition.
-/
import Derived.Test.YtjfdpfjngajnlaaDoorKit22
import Derived.Test.YtjfdpfjngajnlaaDoorKit25
namespace Go.Proofs.YtjfdpfjngajnlaaDoor
open Go.RowKit Go.Sort
set_option linter.unusedVariables false
set_option linter.unusedSimpArgs false
section
variable {P : Program} {n : Nat} {w0 : World} {fr : Slots} {rs : List Res} {ty t : TypeId} {x y z : Operand} {pos : String} {after : Array Edge}
theorem Ex.slLH {e size bytes m c l r : Nat} {k k' : IntKind} {zs : List Value} {ao : Option Addr} [hU : Und P t (.slice e)] [hI : Inf P e size bytes zs] (hx : ev fr x = some (.slice ao m c)) (hy : ev fr y = some (.int k (l : Int))) (hz : ev fr z = some (.int k' (r : Int))) (hr : l ≤ r ∧ r ≤ c) : Ex P n w0 rs fr (.slice t x (some y) (some z) none) ty (.slice (subA ao c l size) (r - l) (c - l)) :=
  fun a w dst pos after guard hf hw => sub_run (P := P) (t := t) (ty := ty) (pos := pos) (after := after) hU hI (w := w) (dst := dst) (guard := guard) hf hx (.inr ⟨y, k, rfl, hy⟩) (.inr ⟨z, k', rfl, hz⟩) hr.1 hr.2
/-- a row of one's own read as one of its pieces -/
theorem RdR.piece {size : Nat} {ao : Option Addr} {n c : Nat} {xs : List Value} (l r : Nat) (hlr : l ≤ r) (hr : r ≤ n) : RdR (.vec t size ao n c xs) (subA ao c l size) (r - l) (c - l) size ((xs.drop (l * size)).take ((r - l) * size)) :=
  ⟨fun H hm => slIn.sl (slIn.piece (rowIn.frozen (H.at hm)) l r hlr hr)⟩
end
end Go.Proofs.YtjfdpfjngajnlaaDoor
