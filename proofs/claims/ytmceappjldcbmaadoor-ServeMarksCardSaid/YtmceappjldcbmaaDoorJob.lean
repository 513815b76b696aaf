/-
  ROWS OF Job as arguments. No condition.
-/
import Derived.Test.YtmceappjldcbmaaDoorKitN2
namespace Go.Proofs.YtmceappjldcbmaaDoor
open Go.RowKit
set_option linter.unusedVariables false
/-- a job as it lies in memory -/
structure JbM where
  kind : Int
  a : Int
  b : Int
  d : SlD UInt8
instance : Inhabited JbM := ⟨⟨0, 0, 0, default⟩⟩
def eJb (m : JbM) : List Value := [.int .i64 m.kind, .int .i64 m.a, .int .i64 m.b, .slice m.d.ao m.d.n m.d.c]
instance : Enc eJb 4 := ⟨fun _ => rfl, fun x u hu => by simp [eJb] at hu; rcases hu with rfl | rfl | rfl | rfl <;> rfl⟩
structure JOk (m : JbM) : Prop where
  k : -9223372036854775808 ≤ m.kind ∧ m.kind ≤ 9223372036854775807
  a : -9223372036854775808 ≤ m.a ∧ m.a ≤ 9223372036854775807
  b : -9223372036854775808 ≤ m.b ∧ m.b ≤ 9223372036854775807
  len : m.d.l.length = m.d.n
  le : m.d.n ≤ 9223372036854775807
abbrev jobS : List (Option IntKind) := [[some .i64], [some .i64], [some .i64], [none]].flatten
theorem job_rows {w : World} {a : Option Addr} {len cap : Nat} {A : List (List Value)} (h : IsRecs jobS w a len cap A) :
    ∃ L : List JbM, L.length = len ∧ len ≤ maxLen ∧ (∀ m ∈ L, JOk m) ∧ ∀ rs, Holds w w rs → Holds w w (.sl a len cap 4 (flat eJb L) :: .per (Rd eB 1 (L.map (·.d))) :: rs) := by
  obtain ⟨L, h1, h2, h3⟩ := recs_list eJb (fun m => JOk m ∧ rowB m.d w) A fun c hc => by
    obtain ⟨k, c1, rfl, wk, q1⟩ := (h.2.2 c hc).int
    obtain ⟨x, c3, rfl, wx, q3⟩ := q1.int
    obtain ⟨y, c4, rfl, wy, q4⟩ := q3.int
    obtain ⟨ao, n, cp, zs, c2, rfl, hr, q2⟩ := q4.row
    obtain rfl := q2.nil
    obtain ⟨d, rfl, rfl, rfl, d4, d5, d6⟩ := row_of hr
    exact ⟨⟨k, x, y, d⟩, rfl, ⟨bd_i64 wk, bd_i64 wx, bd_i64 wy, d4, by unfold maxLen at d5; simp only; omega⟩, d6⟩
  refine ⟨L, by rw [h2]; exact h.1, Nat.le_trans h.2.1.le h.2.1.cap, fun m hm => (h3 m hm).1, fun rs H => ?_⟩
  exact H.argRecs h eJb (·.d) L (by decide) h1 fun m hm => (h3 m hm).2
end Go.Proofs.YtmceappjldcbmaaDoor
