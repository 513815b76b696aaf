/-
  THE KIT OF MY OWN, TWENTY-SECOND PART: a piece of a read slice, its place written out. Over any program; no condition.
-/
import Derived.Test.YtjfdpfjngajnlaaDoorKit18
namespace Go.Proofs.YtjfdpfjngajnlaaDoor
open Go.RowKit Go.Sort
set_option linter.unusedVariables false
set_option linter.unusedSimpArgs false

def subA (ao : Option Addr) (c l s : Nat) : Option Addr := if c = l then ao else ao.map (·.add (l * s))
section
variable {P : Program} {ops : Array Oper} {Q : Exit → Act → World → Prop} {K : Act → Prop} {n : Nat} {ds : List Deferred} {w0 : World} {rest : List Oper} {fr : Slots} {rs rs' : List Res} {ty t tx t' : TypeId} {x y z : Operand} {pos : String} {after : Array Edge}
theorem Ex.slHi {e size bytes m c r : Nat} {k : IntKind} {zs : List Value} {ao : Option Addr} [hU : Und P t (.slice e)] [hI : Inf P e size bytes zs] (hx : ev fr x = some (.slice ao m c)) (hz : ev fr z = some (.int k (r : Int))) (hr : r ≤ c) : Ex P n w0 rs fr (.slice t x none (some z) none) ty (.slice (subA ao c 0 size) (r - 0) (c - 0)) :=
  fun a w dst pos after guard hf hw => sub_run (P := P) (t := t) (ty := ty) (pos := pos) (after := after) hU hI (w := w) (dst := dst) (guard := guard) hf hx (.inl ⟨rfl, rfl⟩) (.inr ⟨z, k, rfl, hz⟩) (Nat.zero_le _) hr
theorem Ex.slLo {e size bytes m c l : Nat} {k : IntKind} {zs : List Value} {ao : Option Addr} [hU : Und P t (.slice e)] [hI : Inf P e size bytes zs] (hx : ev fr x = some (.slice ao m c)) (hz : ev fr z = some (.int k (l : Int))) (hr : l ≤ m ∧ m ≤ c) : Ex P n w0 rs fr (.slice t x (some z) none none) ty (.slice (subA ao c l size) (m - l) (c - l)) :=
  fun a w dst pos after guard hf hw => sub_run (P := P) (t := t) (ty := ty) (pos := pos) (after := after) hU hI (w := w) (dst := dst) (guard := guard) hf hx (.inr ⟨z, k, rfl, hz⟩) (.inl ⟨rfl, rfl⟩) hr.1 hr.2
theorem Holds.slSub {w : World} {ao : Option Addr} {m c size : Nat} {xs : List Value} (l r : Nat) (hl : l ≤ r) (hr : r ≤ m) (H : Holds w0 w (.sl ao m c size xs :: rs)) : Holds w0 w (.sl (subA ao c l size) (r - l) (c - l) size ((xs.drop (l * size)).take ((r - l) * size)) :: .sl ao m c size xs :: rs) :=
  H.derive (List.mem_cons_self ..) _ fun f o o' hs => slIn.piece hs l r hl hr
end
end Go.Proofs.YtjfdpfjngajnlaaDoor
