/-
  PLAIN LAW of package cong: widths and what signals do to them. No program in sight.
-/
import Derived.Test.YtkfpbiljekfibaaBase
namespace Go.Proofs.Ytkfpbiljekfibaa
open Go.RowKit
set_option linter.unusedVariables false

namespace cong
/-- a width's cells -/
def wd (x : Int × Int × Int) : List Value := [.int .i64 x.1, .int .i64 x.2.1, .int .i64 x.2.2]
def ack (x : Int × Int × Int) : Int × Int × Int :=
  if x.1 < x.2.1 then (min (x.1 + 1) 64, x.2.1, x.2.2) else if x.1 ≤ x.2.2 + 1 then (min (x.1 + 1) 64, x.2.1, 0) else (x.1, x.2.1, x.2.2 + 1)
def lose (late : Bool) (x : Int × Int × Int) : Int × Int × Int := (if late then 1 else max (x.1 / 2) 2, max (x.1 / 2) 2, 0)
def acks (x : Int × Int × Int) : Nat → Int × Int × Int
  | 0 => x
  | n + 1 => ack (acks x n)
/-- what a width may be -/
structure OK (x : Int × Int × Int) : Prop where
  w1 : 1 ≤ x.1
  w2 : x.1 ≤ 64
  s1 : 2 ≤ x.2.1
  s2 : x.2.1 ≤ 64
  a1 : 0 ≤ x.2.2
  a2 : x.2.2 < x.1
  a3 : x.1 < x.2.1 → x.2.2 = 0
theorem OK.ack {x : Int × Int × Int} (h : OK x) : OK (ack x) := by
  obtain ⟨h1, h2, h3, h4, h5, h6, h7⟩ := h
  unfold cong.ack
  split
  · have := h7 (by assumption)
    exact ⟨by simp only; omega, by simp only; omega, h3, h4, h5, by simp only; omega, fun _ => this⟩
  · split
    · exact ⟨by simp only; omega, by simp only; omega, h3, h4, by simp only; omega, by simp only; omega, fun _ => rfl⟩
    · exact ⟨h1, h2, h3, h4, by simp only; omega, by simp only; omega, fun h => by simp only at h; omega⟩
theorem OK.lose {x : Int × Int × Int} (h : OK x) (late : Bool) : OK (lose late x) := by
  obtain ⟨h1, h2, h3, h4, h5, h6, h7⟩ := h
  cases late
  · exact ⟨by simp only [cong.lose]; simp; omega, by simp only [cong.lose]; simp; omega, by simp only [cong.lose]; omega, by simp only [cong.lose]; omega, Int.le_refl _, by simp only [cong.lose]; simp; omega, fun _ => rfl⟩
  · exact ⟨by simp only [cong.lose]; simp, by simp only [cong.lose]; simp, by simp only [cong.lose]; omega, by simp only [cong.lose]; omega, Int.le_refl _, by simp only [cong.lose]; simp, fun _ => rfl⟩
theorem OK.acks {x : Int × Int × Int} (h : OK x) : ∀ n, OK (acks x n)
  | 0 => h
  | n + 1 => (OK.acks h n).ack

/-- one signal (its kind, its count) -/
def play1 (x : Int × Int × Int) (s : Int × Int) : Int × Int × Int := if s.1 = 1 then acks x s.2.toNat else lose (decide (s.1 = 3)) x
/-- behind k signals -/
def run (l : List (Int × Int)) : Nat → Int × Int × Int
  | 0 => (1, 64, 0)
  | k + 1 => play1 (run l k) (l.getD k (1, 1))
theorem start_ok : OK (1, 64, 0) := ⟨by decide, by decide, by decide, by decide, by decide, by decide, fun _ => rfl⟩
theorem OK.play1 {x : Int × Int × Int} (h : OK x) (s : Int × Int) : OK (play1 x s) := by
  unfold cong.play1
  split
  · exact h.acks _
  · exact h.lose _
theorem run_ok (l : List (Int × Int)) : ∀ k, OK (run l k)
  | 0 => start_ok
  | k + 1 => (run_ok l k).play1 _
theorem ack_mono {x : Int × Int × Int} (h : OK x) : x.1 ≤ (ack x).1 := by
  have := h.w2
  unfold ack
  split
  · simp only; omega
  · split <;> (simp only; omega)
theorem acks_mono {x : Int × Int × Int} (h : OK x) : ∀ n, x.1 ≤ (acks x n).1
  | 0 => Int.le_refl _
  | n + 1 => Int.le_trans (acks_mono h n) (ack_mono (h.acks n))
theorem lose_le (late : Bool) {x : Int × Int × Int} (h : OK x) : (lose late x).1 ≤ max x.1 2 := by
  have := h.w1
  cases late
  · simp only [lose]; simp; omega
  · simp only [lose]; simp; omega
theorem acks_add (x : Int × Int × Int) (m : Nat) : ∀ n, acks (acks x m) n = acks x (m + n)
  | 0 => rfl
  | n + 1 => congrArg ack (acks_add x m n)
end cong
end Go.Proofs.Ytkfpbiljekfibaa
