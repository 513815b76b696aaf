/-
  THE WALKS OF WithinSplit, SerialRound, SerialHalf, SerialAhead: each returns true. Conditions: none.
-/
import Derived.Test.YtnjdgkhdgeiepaaSerial
namespace Go.Proofs.Ytnjdgkhdgeiepaa
open Go.RowKit serial
set_option linter.unusedVariables false

theorem within_split (x l k j : Int) (hx : 0 ≤ x ∧ x < 65536) (hl : 0 ≤ l ∧ l < 65536) (hk : 0 ≤ k ∧ k < 32768) (hj : 0 ≤ j ∧ j < 32768) (a b c : Bool)
    (ha : decide (far l x < k) = a) (hb : decide (far ((l + k) % 65536) x < j) = b) (hc : decide (far l x < k + j) = c) :
    (a = true ∧ b = false ∧ c = true) ∨ (a = false ∧ b = true ∧ c = true) ∨ (a = false ∧ b = false ∧ c = false) := by
  unfold far at *
  subst ha hb hc
  simp only [decide_eq_true_eq, decide_eq_false_iff_not]
  omega
theorem within_all (x l : Int) : decide (far l x < 65536) = true := by unfold far; simp; omega
theorem within_none (x l : Int) : decide (far l x < 0) = false := by unfold far; simp; omega

theorem withinSplit_walk (a0 : Int) (a1 : Int) (a2 : Int) (a3 : Int) (w : World) (w0 : (Lit.int .i64 a0).wf = true) (w1 : (Lit.int .i64 a1).wf = true) (w2 : (Lit.int .i64 a2).wf = true) (w3 : (Lit.int .i64 a3).wf = true) :
    Calls Try.prog 7 #[.int .i64 a0, .int .i64 a1, .int .i64 a2, .int .i64 a3] w fun e w' => e = .returned (.bool true) ∧ Below w.heap.size w w' := by
  refine calls_hide fun R hR => ?_
  clear w0 w1 w2 w3
  go_enter Try.func7, Try.ntmps7
  go_wp2_with fail
  refine (picked_any _ _ _ (by omega) (by omega)).mono ?_
  rintro e w' ⟨rfl, rfl⟩
  have hx : 0 ≤ a0 % 65536 ∧ a0 % 65536 < 65536 := by omega
  generalize a0 % 65536 = x at hx
  go_wp2_with fail
  refine (picked_any _ _ _ (by omega) (by omega)).mono ?_
  rintro e w' ⟨rfl, rfl⟩
  have hl : 0 ≤ a1 % 65536 ∧ a1 % 65536 < 65536 := by omega
  generalize a1 % 65536 = l at hl
  go_wp2_with fail
  refine (picked_any _ _ _ (by omega) (by omega)).mono ?_
  rintro e w' ⟨rfl, rfl⟩
  have hk : 0 ≤ a2 % 32768 ∧ a2 % 32768 < 32768 := by omega
  generalize a2 % 32768 = k at hk
  go_wp2_with fail
  refine (picked_any _ _ _ (by omega) (by omega)).mono ?_
  rintro e w' ⟨rfl, rfl⟩
  have hj : 0 ≤ a3 % 32768 ∧ a3 % 32768 < 32768 := by omega
  generalize a3 % 32768 = j at hj
  have hall := within_split x l k j hx hl hk hj _ _ _ rfl rfl rfl
  generalize ea : decide (far l x < k) = a at hall
  generalize eb : decide (far ((l + k) % 65536) x < j) = b at hall
  generalize ec : decide (far l x < k + j) = c at hall
  have EA := Lib.hid ea
  have EB := Lib.hid eb
  have EC := Lib.hid ec
  clear ea eb ec
  have hm : 0 ≤ (l + k) % 65536 ∧ (l + k) % 65536 < 65536 := by omega
  obtain ⟨hx1, hx2⟩ := hx
  obtain ⟨hl1, hl2⟩ := hl
  obtain ⟨hk1, hk2⟩ := hk
  obtain ⟨hj1, hj2⟩ := hj
  go_wp2_with fail
  refine (add_any _ _ _ (by omega) (by omega)).mono ?_
  rintro e v1 ⟨rfl, g1⟩
  generalize (l + k) % 65536 = m at hm EB
  obtain ⟨hm1, hm2⟩ := hm
  go_wp2_with fail
  refine (within_is _ _ _ a _ (by omega) (by omega) (by omega) EA.out).mono ?_
  rintro e v2 ⟨rfl, g2⟩
  go_wp2_with fail
  refine (within_is _ _ _ b _ (by omega) (by omega) (by omega) EB.out).mono ?_
  rintro e v3 ⟨rfl, g3⟩
  go_wp2_with fail
  refine (within_is _ _ _ c _ (by omega) (by omega) (by omega) EC.out).mono ?_
  rintro e v4 ⟨rfl, g4⟩
  go_wp2_with fail
  refine (within_is _ _ _ true _ (by omega) (by omega) (by omega) (within_all _ _)).mono ?_
  rintro e v5 ⟨rfl, g5⟩
  go_wp2_with fail
  refine (within_is _ _ _ false _ (by omega) (by omega) (by omega) (within_none _ _)).mono ?_
  rintro e v6 ⟨rfl, g6⟩
  have g := g1.trans ((g2.trans ((g3.trans ((g4.trans ((g5.trans (g6.mono g5.size)).mono g4.size)).mono g3.size)).mono g2.size)).mono g1.size)
  clear EA EB EC g1 g2 g3 g4 g5 g6
  rcases hall with ⟨rfl, rfl, rfl⟩ | ⟨rfl, rfl, rfl⟩ | ⟨rfl, rfl, rfl⟩
  all_goals
    go_wp2
    exact hR.out _ _ ⟨rfl, g⟩

theorem far_shift (x y k : Int) : far ((x + k) % 65536) ((y + k) % 65536) = far x y := by unfold far; omega
theorem far_back (x y : Int) (hx : 0 ≤ x ∧ x < 65536) (hy : 0 ≤ y ∧ y < 65536) : (x = y ∧ far x y = 0 ∧ far y x = 0) ∨ (¬ x = y ∧ 0 < far x y ∧ far y x = 65536 - far x y ∧ (y - x = far x y ∨ y - x = far x y - 65536)) := by
  unfold far; omega
theorem half_cases (x y k o r p : Int) (hx : 0 ≤ x ∧ x < 65536) (hy : 0 ≤ y ∧ y < 65536) (ho : order x y = o) (hr : order y x = r) (hp : order ((x + k) % 65536) ((y + k) % 65536) = p) :
    p = o ∧ ((x = y ∧ o = 0 ∧ r = 0) ∨ (¬ x = y ∧ o = 2 ∧ r = 2 ∧ x - y = 32768) ∨ (¬ x = y ∧ o = 2 ∧ r = 2 ∧ y - x = 32768) ∨ (¬ x = y ∧ o = -1 ∧ r = 1) ∨ (¬ x = y ∧ o = 1 ∧ r = -1)) := by
  have h1 := far_shift x y k
  have h2 := far_back x y hx hy
  have h3 := far_bd x y
  unfold order at *
  rw [h1] at hp
  refine ⟨hp.symm.trans ho, ?_⟩
  clear hp h1
  generalize far x y = d at *
  generalize far y x = e at *
  subst ho hr
  rcases h2 with ⟨h, rfl, rfl⟩ | ⟨h, h4, rfl, h5⟩
  · left; exact ⟨h, rfl, rfl⟩
  · right
    by_cases c1 : d = 32768
    · subst c1; simp; omega
    · by_cases c2 : d < 32768
      · rw [if_neg (by omega), if_neg c1, if_pos c2, if_neg (by omega), if_neg (by omega), if_neg (by omega)]; omega
      · rw [if_neg (by omega), if_neg c1, if_neg c2, if_neg (by omega), if_neg (by omega), if_pos (by omega)]; omega

theorem serialHalf_walk (a0 : Int) (a1 : Int) (a2 : Int) (w : World) (w0 : (Lit.int .i64 a0).wf = true) (w1 : (Lit.int .i64 a1).wf = true) (w2 : (Lit.int .i64 a2).wf = true) :
    Calls Try.prog 9 #[.int .i64 a0, .int .i64 a1, .int .i64 a2] w fun e w' => e = .returned (.bool true) ∧ Below w.heap.size w w' := by
  refine calls_hide fun R hR => ?_
  clear w0 w1 w2
  go_enter Try.func9, Try.ntmps9
  go_wp2_with fail
  refine (picked_any _ _ _ (by omega) (by omega)).mono ?_
  rintro e w' ⟨rfl, rfl⟩
  have hx : 0 ≤ a0 % 65536 ∧ a0 % 65536 < 65536 := by omega
  generalize a0 % 65536 = x at hx
  go_wp2_with fail
  refine (picked_any _ _ _ (by omega) (by omega)).mono ?_
  rintro e w' ⟨rfl, rfl⟩
  have hy : 0 ≤ a1 % 65536 ∧ a1 % 65536 < 65536 := by omega
  generalize a1 % 65536 = y at hy
  go_wp2_with fail
  refine (picked_any _ _ _ (by omega) (by omega)).mono ?_
  rintro e w' ⟨rfl, rfl⟩
  have hk : 0 ≤ a2 % 32768 ∧ a2 % 32768 < 32768 := by omega
  generalize a2 % 32768 = k at hk
  have hall := half_cases x y k _ _ _ hx hy rfl rfl rfl
  generalize eo : order x y = o at hall
  generalize er : order y x = r at hall
  obtain ⟨ep, hall⟩ := hall
  have EO := Lib.hid eo
  have ER := Lib.hid er
  have EP := Lib.hid ep
  clear eo er ep
  have hp : 0 ≤ (x + k) % 65536 ∧ (x + k) % 65536 < 65536 := by omega
  have hq : 0 ≤ (y + k) % 65536 ∧ (y + k) % 65536 < 65536 := by omega
  obtain ⟨hx1, hx2⟩ := hx
  obtain ⟨hy1, hy2⟩ := hy
  obtain ⟨hk1, hk2⟩ := hk
  go_wp2_with fail
  refine (add_any _ _ _ (by omega) (by omega)).mono ?_
  rintro e v1 ⟨rfl, g1⟩
  generalize (x + k) % 65536 = p at hp EP
  go_wp2_with fail
  refine (add_any _ _ _ (by omega) (by omega)).mono ?_
  rintro e v2 ⟨rfl, g2⟩
  generalize (y + k) % 65536 = q at hq EP
  obtain ⟨hp1, hp2⟩ := hp
  obtain ⟨hq1, hq2⟩ := hq
  go_wp2_with fail
  refine (serialOrder_is _ _ o _ (by omega) (by omega) EO.out).mono ?_
  rintro e v3 ⟨rfl, g3⟩
  go_wp2_with fail
  refine (serialOrder_is _ _ r _ (by omega) (by omega) ER.out).mono ?_
  rintro e v4 ⟨rfl, g4⟩
  rcases hall with ⟨rfl, rfl, rfl⟩ | ⟨hne, rfl, rfl, hd⟩ | ⟨hne, rfl, rfl, hd⟩ | ⟨hne, rfl, rfl⟩ | ⟨hne, rfl, rfl⟩
  all_goals
    go_wp2_with fail
    refine (serialOrder_is _ _ _ _ (by omega) (by omega) EP.out).mono ?_
    rintro e v5 ⟨rfl, g5⟩
    have g := g1.trans ((g2.trans ((g3.trans ((g4.trans (g5.mono g4.size)).mono g3.size)).mono g2.size)).mono g1.size)
    clear EO ER EP g1 g2 g3 g4 g5
    go_wp2
    exact hR.out _ _ ⟨rfl, g⟩

theorem round_far (a k : Int) (ha : 0 ≤ a ∧ a < 65536) (hk : 1 ≤ k ∧ k ≤ 199) : far ((a + k) % 65536) a = 65536 - k := by unfold far; omega
theorem round_step (a : Int) (k : Nat) : ((a + 16384 * (k : Int)) % 65536 + 16384) % 65536 = (a + 16384 * ((k + 1 : Nat) : Int)) % 65536 := by omega

theorem serialRound_walk (a0 : Int) (a1 : Int) (w : World) (w0 : (Lit.int .i64 a0).wf = true) (w1 : (Lit.int .i64 a1).wf = true) :
    Calls Try.prog 8 #[.int .i64 a0, .int .i64 a1] w fun e w' => e = .returned (.bool true) ∧ Below w.heap.size w w' := by
  refine calls_hide fun R hR => ?_
  clear w0 w1
  go_enter Try.func8, Try.ntmps8
  go_wp2_with fail
  refine (picked_any _ _ _ (by omega) (by omega)).mono ?_
  rintro e w' ⟨rfl, rfl⟩
  have hx : 0 ≤ a0 % 65536 ∧ a0 % 65536 < 65536 := by omega
  generalize a0 % 65536 = a at hx
  obtain ⟨hx1, hx2⟩ := hx
  go_wp2_with fail
  go_loopw [6, 7] (fun x i wr => ∃ k : Nat, k ≤ 4 ∧ i = .int .i64 k ∧ x = .int .i64 ((a + 16384 * (k : Int)) % 65536) ∧ Below w.heap.size w wr) (fun _ i _ => 4 - (intOf i).toNat)
  case atStart => exact ⟨0, by omega, rfl, val_int (by omega), Below.refl _ _⟩
  case round =>
    obtain ⟨k, hk, rfl, rfl, hb⟩ := hrel
    by_cases hlt : k < 4
    · have hs := round_step a k
      have hx : 0 ≤ (a + 16384 * (k : Int)) % 65536 ∧ (a + 16384 * (k : Int)) % 65536 < 65536 := by omega
      generalize (a + 16384 * (k : Int)) % 65536 = x at hx hs
      have hne : ((x + 16384) % 65536 == x) = false := by simp; omega
      have HS := Lib.hid hs
      clear hs
      obtain ⟨hx3, hx4⟩ := hx
      go_wp2_with fail
      refine (add_any _ _ _ (by omega) (by omega)).mono ?_
      rintro e v1 ⟨rfl, g1⟩
      go_wp2
      go_roundw
      case rel => exact ⟨k + 1, by omega, by go_num, val_int HS.out, hb.trans (g1.mono hb.size)⟩
      case measure => simp [intOf]; omega
    · obtain rfl : k = 4 := by omega
      have hx : (a + 16384 * ((4 : Nat) : Int)) % 65536 = a := by omega
      rw [hx]
      clear hx
      go_wp2_with fail
      refine (picked_any _ _ _ (by omega) (by omega)).mono ?_
      rintro e w' ⟨rfl, rfl⟩
      have hk : 0 ≤ a1 % 100 ∧ a1 % 100 < 100 := by omega
      generalize a1 % 100 = n at hk
      obtain ⟨hk1, hk2⟩ := hk
      have HF := Lib.hid (round_far a (1 + 2 * n) ⟨hx1, hx2⟩ (by omega))
      go_wp2_with fail
      refine (add_any _ _ _ (by omega) (by omega)).mono ?_
      rintro e v1 ⟨rfl, g1⟩
      have hm : 0 ≤ (a + (1 + 2 * n)) % 65536 ∧ (a + (1 + 2 * n)) % 65536 < 65536 := by omega
      generalize (a + (1 + 2 * n)) % 65536 = m at hm HF
      obtain ⟨hm1, hm2⟩ := hm
      go_wp2_with fail
      refine (farE_is _ _ _ _ (by omega) (by omega) HF.out).mono ?_
      rintro e v2 ⟨rfl, g2⟩
      go_wp2
      exact hR.out _ _ ⟨rfl, (hb.trans (g1.mono hb.size)).trans (g2.mono (Nat.le_trans hb.size g1.size))⟩

theorem ahead_far (a x : Int) (ha : 0 ≤ a ∧ a < 65536) (hx : 0 ≤ x ∧ x < 32768) : far a ((a + x) % 65536) = x := by unfold far; omega
theorem ahead_back (a x : Int) (ha : 0 ≤ a ∧ a < 65536) (hx : 0 ≤ x ∧ x < 32768) : far ((a + x) % 65536) a = (if x = 0 then 0 else 65536 - x) := by unfold far; split <;> omega
theorem ahead_order (a x : Int) (ha : 0 ≤ a ∧ a < 65536) (hx : 0 ≤ x ∧ x < 32768) : order a ((a + x) % 65536) = (if x = 0 then 0 else -1) := by
  unfold order; rw [ahead_far a x ha hx]; repeat' split
  all_goals omega
theorem ahead_order' (a x : Int) (ha : 0 ≤ a ∧ a < 65536) (hx : 0 ≤ x ∧ x < 32768) : order ((a + x) % 65536) a = (if x = 0 then 0 else 1) := by
  unfold order; rw [ahead_back a x ha hx]; repeat' split
  all_goals omega
theorem ahead_twice (a x y : Int) : ((a + x) % 65536 + y) % 65536 = (a + (x + y)) % 65536 := by omega

theorem serialAhead_walk (a0 : Int) (a1 : Int) (a2 : Int) (w : World) (w0 : (Lit.int .i64 a0).wf = true) (w1 : (Lit.int .i64 a1).wf = true) (w2 : (Lit.int .i64 a2).wf = true) :
    Calls Try.prog 11 #[.int .i64 a0, .int .i64 a1, .int .i64 a2] w fun e w' => e = .returned (.bool true) ∧ Below w.heap.size w w' := by
  refine calls_hide fun R hR => ?_
  clear w0 w1 w2
  go_enter Try.func11, Try.ntmps11
  go_wp2_with fail
  refine (picked_any _ _ _ (by omega) (by omega)).mono ?_
  rintro e w' ⟨rfl, rfl⟩
  have hx : 0 ≤ a0 % 65536 ∧ a0 % 65536 < 65536 := by omega
  generalize a0 % 65536 = a at hx
  obtain ⟨ha1, ha2⟩ := hx
  go_wp2_with fail
  refine (picked_any _ _ _ (by omega) (by omega)).mono ?_
  rintro e w' ⟨rfl, rfl⟩
  have hy : 0 ≤ a1 % 32768 ∧ a1 % 32768 < 32768 := by omega
  generalize a1 % 32768 = x at hy
  obtain ⟨hx1, hx2⟩ := hy
  go_wp2_with fail
  refine (picked_any _ _ _ (by omega) (by omega)).mono ?_
  rintro e w' ⟨rfl, rfl⟩
  have hk : 0 ≤ a2 % 32768 ∧ a2 % 32768 < 32768 := by omega
  generalize a2 % 32768 = y at hk
  obtain ⟨hy1, hy2⟩ := hk
  have F1 := Lib.hid (ahead_far a x ⟨ha1, ha2⟩ ⟨hx1, hx2⟩)
  have F2 := Lib.hid (ahead_back a x ⟨ha1, ha2⟩ ⟨hx1, hx2⟩)
  have F3 := Lib.hid (ahead_order a x ⟨ha1, ha2⟩ ⟨hx1, hx2⟩)
  have F4 := Lib.hid (ahead_order' a x ⟨ha1, ha2⟩ ⟨hx1, hx2⟩)
  have F5 := Lib.hid (ahead_twice a x y)
  have hb : 0 ≤ (a + x) % 65536 ∧ (a + x) % 65536 < 65536 := by omega
  go_wp2_with fail
  refine (add_any _ _ _ (by omega) (by omega)).mono ?_
  rintro e v1 ⟨rfl, g1⟩
  generalize (a + x) % 65536 = b at hb F1 F2 F3 F4 F5
  obtain ⟨hb1, hb2⟩ := hb
  go_wp2_with fail
  refine (add_any _ _ _ (by omega) (by omega)).mono ?_
  rintro e v2 ⟨rfl, g2⟩
  generalize (b + y) % 65536 = c at F5
  go_wp2_with fail
  refine (farE_is _ _ _ _ (by omega) (by omega) F1.out).mono ?_
  rintro e v3 ⟨rfl, g3⟩
  by_cases hx0 : x = 0
  · subst hx0
    go_wp2_with fail
    refine (farE_is _ _ 0 _ (by omega) (by omega) F2.out).mono ?_
    rintro e v4 ⟨rfl, g4⟩
    go_wp2_with fail
    refine (serialOrder_is _ _ 0 _ (by omega) (by omega) F3.out).mono ?_
    rintro e v5 ⟨rfl, g5⟩
    go_wp2_with fail
    refine (serialOrder_is _ _ 0 _ (by omega) (by omega) F4.out).mono ?_
    rintro e v6 ⟨rfl, g6⟩
    have g := g1.trans ((g2.trans ((g3.trans ((g4.trans ((g5.trans (g6.mono g5.size)).mono g4.size)).mono g3.size)).mono g2.size)).mono g1.size)
    go_wp2_with fail
    refine (add_any _ _ _ (by omega) (by omega)).mono ?_
    rintro e v7 ⟨rfl, g7⟩
    rw [show (a + y) % 65536 = c by rw [F5.out]; congr 1; omega]
    clear F1 F2 F3 F4 F5
    go_wp2
    exact hR.out _ _ ⟨rfl, g.trans (g7.mono g.size)⟩
  · have h0 : 0 < x := by omega
    have hxe : (x == 0) = false := by simp; omega
    have hxf : (x + (65536 - x) != 65536) = false := by simp; omega
    go_wp2_with fail
    refine (farE_is _ _ (65536 - x) _ (by omega) (by omega) (by rw [F2.out, if_neg hx0])).mono ?_
    rintro e v4 ⟨rfl, g4⟩
    go_wp2_with fail
    refine (serialOrder_is _ _ (-1) _ (by omega) (by omega) (by rw [F3.out, if_neg hx0])).mono ?_
    rintro e v5 ⟨rfl, g5⟩
    go_wp2_with fail
    refine (serialOrder_is _ _ 1 _ (by omega) (by omega) (by rw [F4.out, if_neg hx0])).mono ?_
    rintro e v6 ⟨rfl, g6⟩
    have g := g1.trans ((g2.trans ((g3.trans ((g4.trans ((g5.trans (g6.mono g5.size)).mono g4.size)).mono g3.size)).mono g2.size)).mono g1.size)
    by_cases hs : 32768 ≤ x + y
    · clear F1 F2 F3 F4 F5
      go_wp2
      exact hR.out _ _ ⟨rfl, g⟩
    · have hs' : x + y < 32768 := by omega
      clear hs
      go_wp2_with fail
      refine (add_any _ _ _ (by omega) (by omega)).mono ?_
      rintro e v7 ⟨rfl, g7⟩
      rw [← F5.out]
      clear F1 F2 F3 F4 F5
      go_wp2
      exact hR.out _ _ ⟨rfl, g.trans (g7.mono g.size)⟩
end Go.Proofs.Ytnjdgkhdgeiepaa
