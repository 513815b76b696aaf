/-
  THE KIT OF MY OWN, SEVENTEENTH PART: a slice as an array's address; numbers as data. Over any program; no condition.
-/
import Derived.Test.YtjfdpfjngajnlaaDoorKit16
namespace Go.Proofs.YtjfdpfjngajnlaaDoor
open Go.RowKit Go.Sort
set_option linter.unusedVariables false
set_option linter.unusedSimpArgs false

section
variable {P : Program} {ops : Array Oper} {Q : Exit → Act → World → Prop} {K : Act → Prop} {n : Nat} {ds : List Deferred} {w0 : World} {rest : List Oper} {fr : Slots} {rs rs' : List Res} {ty t tx t' : TypeId} {x y z : Operand} {pos : String} {after : Array Edge}

theorem Ex.arrPtr {m e c q : Nat} {ao : Option Addr} [hU : Und P t (.array m e)] (hx : ev fr x = some (.slice ao q c)) (h : m ≤ q) : Ex P n w0 rs fr (.sliceToArrayPointer t x) ty (.pointer ao) :=
  fun a w _ _ _ _ hf hw => by
    have h' : ¬ q < m := by omega
    simp [execOp, Instr.arrayAt, hf.ev hx, run_underlying hU.und, h']
theorem Ex.loadAr {size bytes : Nat} {zs xs vs : List Value} {ao : Option Addr} [hA : Agg P t] [hI : Inf P t size bytes zs] (hx : ev fr x = some (.pointer ao)) [hB : CelAt rs ao xs] (hl : xs.take size = vs) (hs : vs.length = size) (hp : Nat.blt 0 size = true) : Ex P n w0 rs fr (.load t x) ty (.agg vs.toArray) :=
  fun a w dst pos after guard hf hw => by
    obtain ⟨m, c, sz, hsl⟩ := hB.get hw
    have hp' : 0 < size := by simpa [Nat.blt_eq] using hp
    have hlen : 0 < xs.length := by
      have : vs.length ≤ xs.length := by rw [← hl]; simp; omega
      omega
    have hm : 0 < m := by
      rcases Nat.eq_zero_or_pos m with h0 | h0
      · have := hsl.len; rw [h0] at this; omega
      · exact h0
    obtain ⟨b, o, rfl, _, _⟩ := hsl.get hm
    have := loadAgg_run hA hI (p := ⟨b, o, none⟩) (w := w) (cs := vs) hs (fun i v hv => by
      have h2 : xs[i]? = some v := by
        rw [← hl, List.getElem?_take] at hv
        split at hv
        · exact hv
        · cases hv
      exact hsl.cell h2)
    simp [execOp, hf.ev hx, this]
end
/-- a number that is not below zero -/
def eN (x : Nat) : List Value := [.int .i64 (x : Int)]
instance : Enc eN 1 := ⟨fun _ => rfl, fun x u hu => by simp [eN] at hu; subst hu; rfl⟩
end Go.Proofs.YtjfdpfjngajnlaaDoor
