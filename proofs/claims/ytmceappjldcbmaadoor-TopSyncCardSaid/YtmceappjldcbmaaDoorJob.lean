/-
  ROWS OF Job as arguments. No condition.
-/
import Derived.Test.YtmceappjldcbmaaDoorKitN2
namespace Go.Proofs.YtmceappjldcbmaaDoor
open Go.RowKit
set_option linter.unusedVariables false
/-- a job as it lies in memory -/
structure JbM where
  kind : Int
  a : Int
  b : Int
  d : SlD UInt8
instance : Inhabited JbM := ⟨⟨0, 0, 0, default⟩⟩
def eJb (m : JbM) : List Value := [.int .i64 m.kind, .int .i64 m.a, .int .i64 m.b, .slice m.d.ao m.d.n m.d.c]
instance : Enc eJb 4 := ⟨fun _ => rfl, fun x u hu => by simp [eJb] at hu; rcases hu with rfl | rfl | rfl | rfl <;> rfl⟩
structure JOk (m : JbM) : Prop where
  k : -9223372036854775808 ≤ m.kind ∧ m.kind ≤ 9223372036854775807
  a : -9223372036854775808 ≤ m.a ∧ m.a ≤ 9223372036854775807
  b : -9223372036854775808 ≤ m.b ∧ m.b ≤ 9223372036854775807
  len : m.d.l.length = m.d.n
  le : m.d.n ≤ 9223372036854775807
abbrev jobS : List (Option IntKind) := [[some .i64], [some .i64], [some .i64], [none]].flatten
end Go.Proofs.YtmceappjldcbmaaDoor
