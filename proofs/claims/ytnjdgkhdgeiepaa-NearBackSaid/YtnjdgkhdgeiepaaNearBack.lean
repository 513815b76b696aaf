/-
  THE WALK OF NearBack: it returns true. Conditions: none.
-/
import Derived.Test.YtnjdgkhdgeiepaaSerial
namespace Go.Proofs.Ytnjdgkhdgeiepaa
open Go.RowKit serial
set_option linter.unusedVariables false

theorem near_self (p : Int) : near (p % 65536) p = p := by
  unfold near far; split <;> omega
theorem near_back (p d x : Int) (hp : 0 ≤ p ∧ p ≤ 1048576) (hd : -32767 ≤ d ∧ d < 32768) (hx : x = if p + d < 0 then 0 else p + d) : near (x % 65536) p = x := by
  unfold near far; split at hx <;> split <;> omega

theorem nearBack_walk (a0 : Int) (a1 : Int) (w : World) (w0 : (Lit.int .i64 a0).wf = true) (w1 : (Lit.int .i64 a1).wf = true) :
    Calls Try.prog 6 #[.int .i64 a0, .int .i64 a1] w fun e w' => e = .returned (.bool true) ∧ Below w.heap.size w w' := by
  refine calls_hide fun R hR => ?_
  go_enter Try.func6, Try.ntmps6
  go_wp2_with fail
  refine (picked_any _ _ _ (by omega) (by omega)).mono ?_
  rintro e w' ⟨rfl, rfl⟩
  have hp : 0 ≤ a0 % 1048577 ∧ a0 % 1048577 ≤ 1048576 := by omega
  generalize a0 % 1048577 = p at hp
  obtain ⟨hp1, hp2⟩ := hp
  go_wp2_with fail
  refine (picked_any _ _ _ (by omega) (by omega)).mono ?_
  rintro e w' ⟨rfl, rfl⟩
  have hd : 0 ≤ a1 % 65535 ∧ a1 % 65535 < 65535 := by omega
  generalize a1 % 65535 = q at hd
  obtain ⟨hd1, hd2⟩ := hd
  have hself := near_self p
  have HB := Lib.hid (near_back p (q - 32767) _ ⟨hp1, hp2⟩ (by omega) rfl)
  by_cases hn : p + (q - 32767) < 0
  · go_wp2_with fail
    refine (near_is 0 p 0 _ (by omega) ⟨hp1, hp2⟩ (by have := HB.out; rwa [if_pos hn] at this)).mono ?_
    rintro e w1 ⟨rfl, hb1⟩
    go_wp2_with fail
    refine (near_is _ p p _ (by omega) ⟨hp1, hp2⟩ hself).mono ?_
    rintro e w2 ⟨rfl, hb2⟩
    clear hself
    go_wp2
    exact hR.out _ _ ⟨rfl, hb1.trans (hb2.mono hb1.size)⟩
  · go_wp2_with fail
    refine (near_is _ p (p + (q - 32767)) _ (by omega) ⟨hp1, hp2⟩ (by have := HB.out; rwa [if_neg (by omega)] at this)).mono ?_
    rintro e w1 ⟨rfl, hb1⟩
    go_wp2_with fail
    refine (near_is _ p p _ (by omega) ⟨hp1, hp2⟩ hself).mono ?_
    rintro e w2 ⟨rfl, hb2⟩
    clear hself
    go_wp2
    exact hR.out _ _ ⟨rfl, hb1.trans (hb2.mono hb1.size)⟩
end Go.Proofs.Ytnjdgkhdgeiepaa
