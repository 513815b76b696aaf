/-
  CONTRACTS of serial.Near, for numbers in range. Conditions: as each theorem names them.
-/
import Derived.Test.YtcllddkhnbnigaaPicked
namespace Go.Proofs.Ytcllddkhnbnigaa
open Go.RowKit
set_option linter.unusedVariables false

namespace serial
def far (a b : Int) : Int := (b - a + 65536) % 65536
theorem far_bd (a b : Int) : 0 ≤ far a b ∧ far a b < 65536 := by unfold far; omega

theorem far_any (a b : Int) (w : World) (ha : 0 ≤ a ∧ a < 65536) (hb : 0 ≤ b ∧ b < 65536) :
    Calls Try.prog 73 #[.int .i64 a, .int .i64 b] w fun e w' => e = .returned (.int .i64 (far a b)) ∧ w = w' := by
  refine calls_hide fun R hR => ?_
  obtain ⟨h1, h2⟩ := ha
  obtain ⟨h3, h4⟩ := hb
  go_enter Try.func73, Try.ntmps73
  go_wp2
  exact hR.out _ _ ⟨ret_int (by unfold far; omega), rfl⟩

theorem bad_ok (b : Nat) (off : Nat) (zs : List Int) (c : Nat) (w : World) (hl : zs.length ≤ 1000000) (hz : ∀ i, i < zs.length → 0 ≤ zs.getD i 0 ∧ zs.getD i 0 < 65536)
    (hc : ∀ i, i < zs.length → w.cell? ⟨b, off + i, none⟩ = some (.int .i64 (zs.getD i 0))) :
    Calls Try.prog 72 #[.slice (some ⟨b, off, none⟩) zs.length c] w fun e w' => e = .returned (.bool false) ∧ w = w' := by
  refine calls_hide fun R hR => ?_
  have HC := Lib.hid hc
  have HZ := Lib.hid hz
  clear hc hz
  go_enter Try.func72, Try.ntmps72
  go_wp2
  go_loop [4, 7] (fun _ i => ∃ k : Nat, k ≤ zs.length ∧ i = .int .i64 k) (fun _ i => zs.length - (intOf i).toNat)
  case atStart => exact ⟨0, Nat.zero_le _, rfl⟩
  case round =>
    obtain ⟨k, hk, rfl⟩ := hrel
    by_cases hlt : k < zs.length
    · have hcell := HC.out k hlt
      obtain ⟨hz1, hz2⟩ := HZ.out k hlt
      generalize zs.getD k 0 = x at hcell hz1 hz2
      go_wp2
      go_round
      case rel => exact ⟨k + 1, by omega, by go_num⟩
      case measure => simp [intOf]; omega
    · go_wp2
      exact hR.out _ _ ⟨rfl, rfl⟩

theorem bad_one (w : World) (s : Int) (h : 0 ≤ s ∧ s < 65536) :
    Calls Try.prog 72 #[.slice (some ⟨w.heap.size, 0, none⟩) 1 1] (w.alloc (.cells #[.int .i64 s] 3)) fun e w' => e = .returned (.bool false) ∧ w.alloc (.cells #[.int .i64 s] 3) = w' := by
  refine bad_ok w.heap.size 0 [s] 1 _ (by simp) ?_ ?_
  · intro i hi; obtain rfl : i = 0 := by simp at hi; omega
    simpa using h
  · intro i hi; obtain rfl : i = 0 := by simp at hi; omega
    exact cell_new w [.int .i64 s] _ 0 _ rfl

def near (s p : Int) : Int := p + (if far (p % 65536) s ≥ 32768 then far (p % 65536) s - 65536 else far (p % 65536) s)

theorem near_any (s p : Int) (w : World) (ha : 0 ≤ s ∧ s < 65536) (hb : 0 ≤ p ∧ p ≤ 1048576) :
    Calls Try.prog 56 #[.int .i64 s, .int .i64 p] w fun e w' => e = .returned (.tuple #[.int .i64 (near s p), .int .i64 0]) ∧ Below w.heap.size w w' := by
  refine calls_hide fun R hR => ?_
  obtain ⟨hb1, hb2⟩ := hb
  go_enter Try.func56, Try.ntmps56
  go_wp2_with fail
  refine (bad_one w s ha).mono ?_
  rintro e w' ⟨rfl, rfl⟩
  go_wp2_with fail
  refine (far_any _ _ _ (by omega) ha).mono ?_
  rintro e w' ⟨rfl, rfl⟩
  obtain ⟨hd1, hd2⟩ := far_bd (p % 65536) s
  generalize hd : far (p % 65536) s = d at hd1 hd2
  have HD := Lib.hid hd
  clear hd
  by_cases hd : 32768 ≤ d
  · go_wp2
    refine hR.out _ _ ⟨ret_tup (by unfold near; rw [HD.out, if_pos hd]; rfl), (Below.refl _ _).alloc (Nat.le_refl _) _⟩
  · go_wp2
    exact hR.out _ _ ⟨ret_tup (by unfold near; rw [HD.out, if_neg (by omega)]; rfl), (Below.refl _ _).alloc (Nat.le_refl _) _⟩

end serial
end Go.Proofs.Ytcllddkhnbnigaa
