/-
  THE KIT OF MY OWN, FOURTEENTH PART: rows of slices joined; quotients of numbers below zero. Over any program; no condition.
-/
import Derived.Test.YtjfdpfjngajnlaaDoorKit13
namespace Go.Proofs.YtjfdpfjngajnlaaDoor
open Go.RowKit Go.Sort
set_option linter.unusedVariables false
set_option linter.unusedSimpArgs false

section
variable {P : Program} {ops : Array Oper} {Q : Exit → Act → World → Prop} {K : Act → Prop} {n : Nat} {ds : List Deferred} {w0 : World} {rest : List Oper} {fr : Slots} {rs rs' : List Res} {ty t tx t' : TypeId} {x y : Operand} {pos : String} {after : Array Edge}

theorem Holds.rdApp {w : World} {α : Type} {enc : α → List Value} {s : Nat} {l m : List (SlD α)} (H : Holds w0 w (.per (Rd enc s l) :: .per (Rd enc s m) :: rs)) : Holds w0 w (.per (Rd enc s (l ++ m)) :: rs) :=
  H.join fun f a b ha hb _ y hy => (List.mem_append.1 hy).elim (ha y) (hb y)
theorem Ex.quotB {a b : Int} (hx : ev fr x = some (.int .i64 a)) (hy : ev fr y = some (.int .i64 b)) (h : 0 < b ∧ -9223372036854775808 ≤ a ∧ a ≤ 9223372036854775807) : Ex P n w0 rs fr (.binOp .quo t x y t') ty (.int .i64 (a.tdiv b)) := by
  have h1 := Int.natAbs_tdiv_le_natAbs a b
  by_cases ha : 0 ≤ a
  · have h2 : 0 ≤ a.tdiv b := Int.tdiv_nonneg ha (by omega)
    exact Ex.quot hx hy ⟨by omega, by omega, by omega⟩
  · have h2 : 0 ≤ (-a).tdiv b := Int.tdiv_nonneg (by omega) (by omega)
    rw [Int.neg_tdiv] at h2
    exact Ex.quot hx hy ⟨by omega, by omega, by omega⟩
end
end Go.Proofs.YtjfdpfjngajnlaaDoor
