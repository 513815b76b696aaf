/-
  PLAIN LAW of package cong. No program in sight.
-/
import Derived.Test.YtpfpjlhcmdpdkaaCong
namespace Go.Proofs.Ytpfpjlhcmdpdkaa
open Go.RowKit
set_option linter.unusedVariables false

namespace cong
/-- one signal (its kind, its count) -/
def play1 (x : Int × Int × Int) (s : Int × Int) : Int × Int × Int := if s.1 = 1 then acks x s.2.toNat else lose (decide (s.1 = 3)) x
/-- behind k signals -/
def run (l : List (Int × Int)) : Nat → Int × Int × Int
  | 0 => (1, 64, 0)
  | k + 1 => play1 (run l k) (l.getD k (1, 1))
theorem start_ok : OK (1, 64, 0) := ⟨by decide, by decide, by decide, by decide, by decide, by decide, fun _ => rfl⟩
theorem OK.play1 {x : Int × Int × Int} (h : OK x) (s : Int × Int) : OK (play1 x s) := by
  unfold cong.play1
  split
  · exact h.acks _
  · exact h.lose _
theorem run_ok (l : List (Int × Int)) : ∀ k, OK (run l k)
  | 0 => start_ok
  | k + 1 => (run_ok l k).play1 _
theorem ack_mono {x : Int × Int × Int} (h : OK x) : x.1 ≤ (ack x).1 := by
  have := h.w2
  unfold ack
  split
  · simp only; omega
  · split <;> (simp only; omega)
theorem acks_mono {x : Int × Int × Int} (h : OK x) : ∀ n, x.1 ≤ (acks x n).1
  | 0 => Int.le_refl _
  | n + 1 => Int.le_trans (acks_mono h n) (ack_mono (h.acks n))
theorem lose_le (late : Bool) {x : Int × Int × Int} (h : OK x) : (lose late x).1 ≤ max x.1 2 := by
  have := h.w1
  cases late
  · simp only [lose]; simp; omega
  · simp only [lose]; simp; omega
theorem acks_add (x : Int × Int × Int) (m : Nat) : ∀ n, acks (acks x m) n = acks x (m + n)
  | 0 => rfl
  | n + 1 => congrArg ack (acks_add x m n)
end cong
end Go.Proofs.Ytpfpjlhcmdpdkaa
