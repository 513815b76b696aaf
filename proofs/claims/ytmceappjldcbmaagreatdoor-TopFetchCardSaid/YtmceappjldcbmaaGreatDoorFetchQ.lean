/-
  PLAIN LAW of packthreadkeep.FetchStill: what was not asked for changes nothing. No program in sight.
-/
import Derived.Test.YtmceappjldcbmaaGreatDoorFetchP
namespace Go.Proofs.YtmceappjldcbmaaGreatDoor
set_option linter.unusedVariables false
namespace fetch
/-- wants of hundreds are at hundreds -/
structure Iv (f : Fe) : Prop where
  fr : f.front % 100 = 0
  w : ∀ x ∈ f.out, x.2 ≤ 100 ∧ (x.2 = 100 → x.1 % 100 = 0)
theorem runs_at : ∀ (l : List Got) (h : Fe) (k : Nat), k < l.length → (runs h l).getD k default = (gotF (ends h (l.take k)) (l.getD k default)).2 ∧ ends h (l.take (k + 1)) = (gotF (ends h (l.take k)) (l.getD k default)).1
  | [], h, k, hk => absurd hk (Nat.not_lt_zero _)
  | a :: t, h, 0, _ => ⟨rfl, rfl⟩
  | a :: t, h, k + 1, hk => by
    have := runs_at t (gotF h a).1 k (by simpa using hk)
    simpa [runs, ends] using this
theorem first_six : (onF newF []).2.wants.length = 6 ∧ (onF newF []).2.code = 0 := by decide
end fetch
end Go.Proofs.YtmceappjldcbmaaGreatDoor
