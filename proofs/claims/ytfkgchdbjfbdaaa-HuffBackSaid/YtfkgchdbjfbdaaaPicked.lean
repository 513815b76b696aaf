/-
  THE CONTRACT of packthreadkeep.Picked. Conditions: the second number above 0.
-/
import Derived.Test.YtfkgchdbjfbdaaaBase
namespace Go.Proofs.Ytfkgchdbjfbdaaa
open Go.RowKit
set_option linter.unusedVariables false

theorem picked_any (a n : Int) (w : World) (hn : 0 < n) (hm : n ≤ 4611686018427387904) :
    Calls Try.prog 11 #[.int .i64 a, .int .i64 n] w fun e w' => e = .returned (.int .i64 (a % n)) ∧ w = w' := by
  refine calls_hide fun R hR => ?_
  by_cases h0 : 0 ≤ a
  · have h1 := Int.emod_nonneg a (show n ≠ 0 by omega)
    go_enter Try.func11, Try.ntmps11
    go_wp2
    exact hR.out _ _ ⟨rfl, rfl⟩
  · obtain ⟨t1, t2, t3, t4⟩ := tmod_bd a n hn (by omega)
    have T3 := Lib.hid t3
    have T4 := Lib.hid t4
    clear t3 t4
    by_cases h3 : a.tmod n < 0
    · go_enter Try.func11, Try.ntmps11
      go_wp2
      exact hR.out _ _ ⟨ret_int (T3.out h3).symm, rfl⟩
    · go_enter Try.func11, Try.ntmps11
      go_wp2
      exact hR.out _ _ ⟨ret_int (T4.out (by omega)).symm, rfl⟩

end Go.Proofs.Ytfkgchdbjfbdaaa
