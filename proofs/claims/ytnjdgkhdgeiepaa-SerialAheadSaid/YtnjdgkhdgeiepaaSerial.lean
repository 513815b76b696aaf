/-
  CONTRACTS of packthreadkeep.Picked and of package serial, for numbers in range. Conditions: as each theorem names them.
-/
import Derived.Test.YtnjdgkhdgeiepaaBase
namespace Go.Proofs.Ytnjdgkhdgeiepaa
open Go.RowKit
set_option linter.unusedVariables false

theorem picked_any (a n : Int) (w : World) (hn : 0 < n) (hm : n ≤ 4611686018427387904) :
    Calls Try.prog 14 #[.int .i64 a, .int .i64 n] w fun e w' => e = .returned (.int .i64 (a % n)) ∧ w = w' := by
  refine calls_hide fun R hR => ?_
  by_cases h0 : 0 ≤ a
  · have h1 := Int.emod_nonneg a (show n ≠ 0 by omega)
    go_enter Try.func14, Try.ntmps14
    go_wp2
    exact hR.out _ _ ⟨rfl, rfl⟩
  · obtain ⟨t1, t2, t3, t4⟩ := tmod_bd a n hn (by omega)
    have T3 := Lib.hid t3
    have T4 := Lib.hid t4
    clear t3 t4
    by_cases h3 : a.tmod n < 0
    · go_enter Try.func14, Try.ntmps14
      go_wp2
      exact hR.out _ _ ⟨ret_int (T3.out h3).symm, rfl⟩
    · go_enter Try.func14, Try.ntmps14
      go_wp2
      exact hR.out _ _ ⟨ret_int (T4.out (by omega)).symm, rfl⟩

namespace serial
def far (a b : Int) : Int := (b - a + 65536) % 65536
theorem far_bd (a b : Int) : 0 ≤ far a b ∧ far a b < 65536 := by unfold far; omega

theorem far_any (a b : Int) (w : World) (ha : 0 ≤ a ∧ a < 65536) (hb : 0 ≤ b ∧ b < 65536) :
    Calls Try.prog 27 #[.int .i64 a, .int .i64 b] w fun e w' => e = .returned (.int .i64 (far a b)) ∧ w = w' := by
  refine calls_hide fun R hR => ?_
  obtain ⟨h1, h2⟩ := ha
  obtain ⟨h3, h4⟩ := hb
  go_enter Try.func27, Try.ntmps27
  go_wp2
  exact hR.out _ _ ⟨ret_int (by unfold far; omega), rfl⟩

theorem bad_ok (b : Nat) (off : Nat) (zs : List Int) (c : Nat) (w : World) (hl : zs.length ≤ 1000000) (hz : ∀ i, i < zs.length → 0 ≤ zs.getD i 0 ∧ zs.getD i 0 < 65536)
    (hc : ∀ i, i < zs.length → w.cell? ⟨b, off + i, none⟩ = some (.int .i64 (zs.getD i 0))) :
    Calls Try.prog 26 #[.slice (some ⟨b, off, none⟩) zs.length c] w fun e w' => e = .returned (.bool false) ∧ w = w' := by
  refine calls_hide fun R hR => ?_
  have HC := Lib.hid hc
  have HZ := Lib.hid hz
  clear hc hz
  go_enter Try.func26, Try.ntmps26
  go_wp2
  go_loop [4, 7] (fun _ i => ∃ k : Nat, k ≤ zs.length ∧ i = .int .i64 k) (fun _ i => zs.length - (intOf i).toNat)
  case atStart => exact ⟨0, Nat.zero_le _, rfl⟩
  case round =>
    obtain ⟨k, hk, rfl⟩ := hrel
    by_cases hlt : k < zs.length
    · have hcell := HC.out k hlt
      obtain ⟨hz1, hz2⟩ := HZ.out k hlt
      generalize zs.getD k 0 = x at hcell hz1 hz2
      go_wp2
      go_round
      case rel => exact ⟨k + 1, by omega, by go_num⟩
      case measure => simp [intOf]; omega
    · go_wp2
      exact hR.out _ _ ⟨rfl, rfl⟩

theorem bad_one (w : World) (s : Int) (h : 0 ≤ s ∧ s < 65536) :
    Calls Try.prog 26 #[.slice (some ⟨w.heap.size, 0, none⟩) 1 1] (w.alloc (.cells #[.int .i64 s] 3)) fun e w' => e = .returned (.bool false) ∧ w.alloc (.cells #[.int .i64 s] 3) = w' := by
  refine bad_ok w.heap.size 0 [s] 1 _ (by simp) ?_ ?_
  · intro i hi; obtain rfl : i = 0 := by simp at hi; omega
    simpa using h
  · intro i hi; obtain rfl : i = 0 := by simp at hi; omega
    exact cell_new w [.int .i64 s] _ 0 _ rfl
theorem bad_two (w : World) (s t : Int) (h : 0 ≤ s ∧ s < 65536) (h' : 0 ≤ t ∧ t < 65536) :
    Calls Try.prog 26 #[.slice (some ⟨w.heap.size, 0, none⟩) 2 2] (w.alloc (.cells #[.int .i64 s, .int .i64 t] 3)) fun e w' => e = .returned (.bool false) ∧ w.alloc (.cells #[.int .i64 s, .int .i64 t] 3) = w' := by
  refine bad_ok w.heap.size 0 [s, t] 2 _ (by simp) ?_ ?_
  · intro i hi
    have : i = 0 ∨ i = 1 := by simp at hi; omega
    rcases this with rfl | rfl
    · simpa using h
    · simpa using h'
  · intro i hi
    have : i = 0 ∨ i = 1 := by simp at hi; omega
    rcases this with rfl | rfl
    · exact cell_new w [.int .i64 s, .int .i64 t] _ 0 _ rfl
    · exact cell_new w [.int .i64 s, .int .i64 t] _ 1 _ rfl

def near (s p : Int) : Int := p + (if far (p % 65536) s ≥ 32768 then far (p % 65536) s - 65536 else far (p % 65536) s)

theorem near_any (s p : Int) (w : World) (ha : 0 ≤ s ∧ s < 65536) (hb : 0 ≤ p ∧ p ≤ 1048576) :
    Calls Try.prog 18 #[.int .i64 s, .int .i64 p] w fun e w' => e = .returned (.tuple #[.int .i64 (near s p), .int .i64 0]) ∧ Below w.heap.size w w' := by
  refine calls_hide fun R hR => ?_
  obtain ⟨hb1, hb2⟩ := hb
  go_enter Try.func18, Try.ntmps18
  go_wp2_with fail
  refine (bad_one w s ha).mono ?_
  rintro e w' ⟨rfl, rfl⟩
  go_wp2_with fail
  refine (far_any _ _ _ (by omega) ha).mono ?_
  rintro e w' ⟨rfl, rfl⟩
  obtain ⟨hd1, hd2⟩ := far_bd (p % 65536) s
  generalize hd : far (p % 65536) s = d at hd1 hd2
  have HD := Lib.hid hd
  clear hd
  by_cases hd : 32768 ≤ d
  · go_wp2
    refine hR.out _ _ ⟨ret_tup (by unfold near; rw [HD.out, if_pos hd]; rfl), (Below.refl _ _).alloc (Nat.le_refl _) _⟩
  · go_wp2
    exact hR.out _ _ ⟨ret_tup (by unfold near; rw [HD.out, if_neg (by omega)]; rfl), (Below.refl _ _).alloc (Nat.le_refl _) _⟩

theorem near_is (s p x : Int) (w : World) (ha : 0 ≤ s ∧ s < 65536) (hb : 0 ≤ p ∧ p ≤ 1048576) (hx : near s p = x) :
    Calls Try.prog 18 #[.int .i64 s, .int .i64 p] w fun e w' => e = .returned (.tuple #[.int .i64 x, .int .i64 0]) ∧ Below w.heap.size w w' := hx ▸ near_any s p w ha hb

theorem add_any (s n : Int) (w : World) (ha : 0 ≤ s ∧ s < 65536) (hb : 0 ≤ n ∧ n < 32768) :
    Calls Try.prog 19 #[.int .i64 s, .int .i64 n] w fun e w' => e = .returned (.tuple #[.int .i64 ((s + n) % 65536), .int .i64 0]) ∧ Below w.heap.size w w' := by
  refine calls_hide fun R hR => ?_
  obtain ⟨hb1, hb2⟩ := hb
  obtain ⟨ha1, ha2⟩ := ha
  go_enter Try.func19, Try.ntmps19
  go_wp2_with fail
  refine (bad_one w s ⟨ha1, ha2⟩).mono ?_
  rintro e w' ⟨rfl, rfl⟩
  go_wp2
  exact hR.out _ _ ⟨rfl, (Below.refl _ _).alloc (Nat.le_refl _) _⟩
theorem farE_is (a b x : Int) (w : World) (ha : 0 ≤ a ∧ a < 65536) (hb : 0 ≤ b ∧ b < 65536) (hx : far a b = x) :
    Calls Try.prog 21 #[.int .i64 a, .int .i64 b] w fun e w' => e = .returned (.tuple #[.int .i64 x, .int .i64 0]) ∧ Below w.heap.size w w' := by
  refine calls_hide fun R hR => ?_
  subst hx
  go_enter Try.func21, Try.ntmps21
  go_wp2_with fail
  refine (bad_two w a b ha hb).mono ?_
  rintro e w' ⟨rfl, rfl⟩
  go_wp2_with fail
  refine (far_any _ _ _ ha hb).mono ?_
  rintro e w' ⟨rfl, rfl⟩
  go_wp2
  exact hR.out _ _ ⟨rfl, (Below.refl _ _).alloc (Nat.le_refl _) _⟩

theorem within_is (s low n : Int) (x : Bool) (w : World) (ha : 0 ≤ s ∧ s < 65536) (hb : 0 ≤ low ∧ low < 65536) (hn : 0 ≤ n ∧ n ≤ 65536) (hx : decide (far low s < n) = x) :
    Calls Try.prog 20 #[.int .i64 s, .int .i64 low, .int .i64 n] w fun e w' => e = .returned (.tuple #[.bool x, .int .i64 0]) ∧ Below w.heap.size w w' := by
  refine calls_hide fun R hR => ?_
  subst hx
  obtain ⟨hn1, hn2⟩ := hn
  go_enter Try.func20, Try.ntmps20
  go_wp2_with fail
  refine (bad_two w s low ha hb).mono ?_
  rintro e w' ⟨rfl, rfl⟩
  go_wp2_with fail
  refine (far_any _ _ _ hb ha).mono ?_
  rintro e w' ⟨rfl, rfl⟩
  go_wp2
  exact hR.out _ _ ⟨rfl, (Below.refl _ _).alloc (Nat.le_refl _) _⟩

def order (a b : Int) : Int := if far a b = 0 then 0 else if far a b = 32768 then 2 else if far a b < 32768 then -1 else 1

theorem order_any (a b : Int) (w : World) (ha : 0 ≤ a ∧ a < 65536) (hb : 0 ≤ b ∧ b < 65536) :
    Calls Try.prog 28 #[.int .i64 a, .int .i64 b] w fun e w' => e = .returned (.tuple #[.int .i64 (order a b), .int .i64 0]) ∧ Below w.heap.size w w' := by
  refine calls_hide fun R hR => ?_
  go_enter Try.func28, Try.ntmps28
  go_wp2_with fail
  refine (bad_two w a b ha hb).mono ?_
  rintro e w' ⟨rfl, rfl⟩
  go_wp2_with fail
  refine (far_any _ _ _ ha hb).mono ?_
  rintro e w' ⟨rfl, rfl⟩
  obtain ⟨hd1, hd2⟩ := far_bd a b
  generalize hd : far a b = d at hd1 hd2
  have HD := Lib.hid hd
  clear hd
  have hb := (Below.refl w.heap.size w).alloc (Nat.le_refl _) (.cells #[.int .i64 a, .int .i64 b] 3)
  by_cases h0 : d = 0
  · subst h0
    go_wp2
    exact hR.out _ _ ⟨ret_tup (by unfold order; rw [HD.out]; rfl), hb⟩
  · by_cases h1 : d = 32768
    · subst h1
      go_wp2
      exact hR.out _ _ ⟨ret_tup (by unfold order; rw [HD.out]; rfl), hb⟩
    · by_cases h2 : d < 32768
      · go_wp2
        exact hR.out _ _ ⟨ret_tup (by unfold order; rw [HD.out, if_neg h0, if_neg h1, if_pos h2]; rfl), hb⟩
      · go_wp2
        exact hR.out _ _ ⟨ret_tup (by unfold order; rw [HD.out, if_neg h0, if_neg h1, if_neg (by omega)]; rfl), hb⟩

theorem serialOrder_is (a b x : Int) (w : World) (ha : 0 ≤ a ∧ a < 65536) (hb : 0 ≤ b ∧ b < 65536) (hx : order a b = x) :
    Calls Try.prog 22 #[.int .i64 a, .int .i64 b] w fun e w' => e = .returned (.int .i64 x) ∧ Below w.heap.size w w' := by
  refine calls_hide fun R hR => ?_
  subst hx
  go_enter Try.func22, Try.ntmps22
  go_wp2_with fail
  refine (order_any _ _ _ ha hb).mono ?_
  rintro e w1 ⟨rfl, h1⟩
  go_wp2
  exact hR.out _ _ ⟨rfl, h1⟩
end serial
end Go.Proofs.Ytnjdgkhdgeiepaa
