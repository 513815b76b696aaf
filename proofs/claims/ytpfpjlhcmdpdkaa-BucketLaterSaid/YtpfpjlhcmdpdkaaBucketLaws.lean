/-
  THE WALKS OF BucketHolds, BucketKind: each returns true. Conditions: none.
-/
import Derived.Test.YtpfpjlhcmdpdkaaBucket2
namespace Go.Proofs.Ytpfpjlhcmdpdkaa
open Go.RowKit
set_option linter.unusedVariables false

namespace bucket
theorem picked_is (a n x : Int) (w : World) (hn : 0 < n) (hm : n ≤ 4611686018427387904) (hx : a % n = x) :
    Calls Try.prog 15 #[.int .i64 a, .int .i64 n] w fun e w' => e = .returned (.int .i64 x) ∧ w = w' := by
  subst hx; exact picked_any a n w hn hm
theorem bound_q (r u t x : Int) (w : World) (hr : 0 ≤ r ∧ r ≤ 1000) (hu : 0 ≤ u ∧ u ≤ 100000) (ht : 0 ≤ t ∧ t ≤ 1048576) (hx : u + r * t = x) :
    Calls Try.prog 18 #[.int .i64 r, .int .i64 u, .int .i64 t] w fun e w' => e = .returned (.tuple #[.int .i64 x, .int .i64 0]) ∧ ∃ n, w' = w.drewN n := by
  subst hx
  refine (bound_any r u t w hr hu ht).mono ?_
  rintro e w' ⟨rfl, rfl⟩
  exact ⟨rfl, 0, rfl⟩

/-- what passes from packet i on, d packets -/
def psum (r u : Int) (l : List (Int × Int)) (i : Nat) : Nat → Int
  | 0 => 0
  | d + 1 => psum r u l i d + if pass r u l (i + d) = true then Sz l (i + d) else 0
theorem psum_bd (r u : Int) (l : List (Int × Int)) (h : PK l) (i : Nat) : ∀ d, i + d ≤ l.length → 0 ≤ psum r u l i d ∧ psum r u l i d ≤ 300 * (d : Int) := by
  intro d
  induction d with
  | zero => intro _; simp [psum]
  | succ d ih =>
    intro hd
    have := ih (by omega)
    have := h.s0 (i + d) (by omega)
    simp only [psum]
    split <;> omega
theorem left_pass (r u : Int) (l : List (Int × Int)) (k : Nat) : (if pass r u l k = true then Sz l k else 0) + left r u l (k + 1) = avail r u l k := by
  simp only [pass, decide_eq_true_eq, left]
  split <;> omega
theorem avail_le (r u : Int) (l : List (Int × Int)) (k : Nat) : avail r u l (k + 1) ≤ left r u l (k + 1) + r * (At l (k + 1) - At l k) := by
  simp only [avail, left]
  omega
theorem avail_u (r u : Int) (l : List (Int × Int)) (k : Nat) : avail r u l k ≤ u := by
  cases k with
  | zero => simp [avail]
  | succ k => simp only [avail]; omega
theorem holds_sum (r u : Int) (l : List (Int × Int)) (i : Nat) : ∀ d, psum r u l i (d + 1) + left r u l (i + d + 1) ≤ avail r u l i + r * (At l (i + d) - At l i) := by
  intro d
  induction d with
  | zero =>
    have := left_pass r u l i
    simp only [psum, Nat.add_zero, Int.sub_self, Int.mul_zero, Int.zero_add, Int.add_zero]
    omega
  | succ d ih =>
    have h1 := left_pass r u l (i + d + 1)
    have h2 := avail_le r u l (i + d)
    have h3 : r * (At l (i + d + 1) - At l i) = r * (At l (i + d) - At l i) + r * (At l (i + d + 1) - At l (i + d)) := by
      rw [← Int.mul_add]; congr 1; omega
    have e : psum r u l i (d + 1 + 1) = psum r u l i (d + 1) + if pass r u l (i + d + 1) = true then Sz l (i + d + 1) else 0 := rfl
    have e2 : i + (d + 1) = i + d + 1 := rfl
    rw [e, e2, h3]
    omega
theorem at_mono (l : List (Int × Int)) (h : PK l) (i : Nat) : ∀ d, i + d < l.length → At l i ≤ At l (i + d) := by
  intro d
  induction d with
  | zero => intro _; exact Int.le_refl _
  | succ d ih =>
    intro hd
    have h1 := ih (by omega)
    have h2 := h.up (i + d) (by omega)
    have e2 : i + (d + 1) = i + d + 1 := rfl
    rw [e2]; omega
theorem holds_law (r u : Int) (l : List (Int × Int)) (h : PK l) (hr : 0 ≤ r) (hu : 0 ≤ u) (hl : l.length ≤ 1000) (i d : Nat) (hd : i + d < l.length) : psum r u l i (d + 1) ≤ u + r * (At l (i + d) - At l i) := by
  have h1 := holds_sum r u l i d
  have h2 := (left_bd r u l hr hu (h.ok hl) (i + d + 1) (by omega)).1
  have h3 := avail_u r u l i
  omega
theorem passes_at (r u : Int) (l : List (Int × Int)) (n k : Nat) (h : k < n) : (bools (passes r u l n))[k]? = some (.bool (pass r u l k)) := by
  simp [bools, passes, h]

end bucket
open bucket
set_option maxHeartbeats 4000000 in
set_option maxRecDepth 100000 in
theorem bucketHolds_walk (a0 : Int) (a1 : Int) (a2 : Option Addr) (len2 cap2 : Nat) (z2 : List Int) (a3 : Int) (a4 : Int) (w : World) (w0 : (Lit.int .i64 a0).wf = true) (w1 : (Lit.int .i64 a1).wf = true) (w2 : IsRow .i64 w a2 len2 cap2 z2) (w3 : (Lit.int .i64 a3).wf = true) (w4 : (Lit.int .i64 a4).wf = true) :
    Calls Try.prog 5 #[.int .i64 a0, .int .i64 a1, .slice a2 len2 cap2, .int .i64 a3, .int .i64 a4] w fun e w' => e = .returned (.bool true) ∧ Below w.heap.size w w' := by
  refine calls_hide fun R hR => ?_
  obtain ⟨hsl, hwf⟩ := w2.sl
  clear w0 w1 w2 w3 w4
  have HW := Lib.hid hwf
  clear hwf
  obtain ⟨r, hr⟩ : ∃ r, a0 % 60 = r := ⟨_, rfl⟩
  obtain ⟨u, hu⟩ : ∃ u, a1 % 900 = u := ⟨_, rfl⟩
  have hrb : 0 ≤ r ∧ r ≤ 1000 := by omega
  have hub : 0 ≤ u ∧ u ≤ 100000 := by omega
  have RB := Lib.hid (And.intro hrb (show r < 60 by omega))
  have UB := Lib.hid (And.intro hub (show u < 900 by omega))
  clear hrb hub
  go_enter Try.func5, Try.ntmps5
  go_wp2_with fail
  refine (picked_is a0 60 r _ (by omega) (by omega) hr).mono ?_
  rintro e w' ⟨rfl, rfl⟩
  go_wp2_with fail
  refine (picked_is a1 900 u _ (by omega) (by omega) hu).mono ?_
  rintro e w' ⟨rfl, rfl⟩
  clear hr hu
  go_wp2_with fail
  refine (packets_any _ _ _ _ 150 _ hsl HW.out (by omega)).mono ?_
  rintro e v1 ⟨ps, ao1, m, c1, hpl, hpk, hm, rfl, ho1, hb1⟩
  have hs1 := hb1.size
  have hc1 := ho1.sl.cap
  have hlc1 := ho1.sl.le
  unfold maxLen at hc1
  go_wp2_with fail
  refine (bucketed_any r u _ _ _ ps _ ho1.sl RB.out.1 UB.out.1 (by omega) (hpk.ok (by omega))).mono ?_
  rintro e v2 ⟨ao2, c2, rfl, ho2, hb2⟩
  have hs2 := hb2.size
  have hc2 := ho2.sl.cap
  have hlc2 := ho2.sl.le
  unfold maxLen at hc2
  have HB := Lib.hid (hb1.trans (hb2.mono (by omega)))
  have H1 := Lib.hid (ho1.below hb2)
  have H2 := Lib.hid ho2
  have HPL := Lib.hid hpl
  have HPK := Lib.hid hpk
  clear ho1 ho2 hb1 hb2 hsl hpl hpk
  by_cases hm0 : m = 0
  · subst hm0
    go_wp2
    exact hR.out _ _ ⟨rfl, HB.out⟩
  · obtain ⟨i, hi⟩ : ∃ i : Nat, a3 % (m : Int) = i := ⟨(a3 % (m : Int)).toNat, by have := Int.emod_nonneg a3 (show (m : Int) ≠ 0 by omega); omega⟩
    have hi2 : (i : Int) < m := by have := Int.emod_lt_of_pos a3 (show (0 : Int) < (m : Int) by omega); omega
    obtain ⟨d0, hd0⟩ : ∃ d0 : Nat, a4 % ((m : Int) - i) = d0 := ⟨(a4 % ((m : Int) - i)).toNat, by have := Int.emod_nonneg a4 (show (m : Int) - i ≠ 0 by omega); omega⟩
    have hd2 : (i : Int) + d0 < m := by have := Int.emod_lt_of_pos a4 (show (0 : Int) < (m : Int) - i by omega); omega
    obtain ⟨b1, rfl, hb10, hb1, hcc1, hff1⟩ := H1.out.get (by omega)
    obtain ⟨b2, rfl, hb20, hb2, hcc2, hff2⟩ := H2.out.get (by omega)
    have C1 := Lib.hid hcc1
    have C2 := Lib.hid hcc2
    clear hcc1 hcc2 hff1 hff2
    go_wp2_with fail
    refine (picked_is a3 m i _ (by omega) (by omega) hi).mono ?_
    rintro e w' ⟨rfl, rfl⟩
    go_wp2_with fail
    refine (picked_is a4 (m - i) d0 _ (by omega) (by omega) hd0).mono ?_
    rintro e w' ⟨rfl, rfl⟩
    clear hi hd0
    go_wp2_with fail
    obtain ⟨k, hik⟩ : ∃ k : Nat, k = i + d0 := ⟨_, rfl⟩
    have hk : ((i : Int) + (d0 : Int)) = (k : Int) := by omega
    have hkm : k < m := by omega
    have hikle : i ≤ k := by omega
    rw [hk]
    have HIK := Lib.hid hik
    clear hk hd2 hik
    go_loopw [18, 19] (fun s j wr => ∃ (d jj : Nat), jj ≤ k + 1 ∧ j = .int .i64 jj ∧ s = .int .i64 (psum r u ps i d) ∧ Hid (jj = i + d) ∧ wr = v2) (fun _ j _ => k + 1 - (intOf j).toNat)
    case atStart => exact ⟨0, i, by omega, rfl, rfl, Lib.hid rfl, rfl⟩
    case round =>
      obtain ⟨d, j, hj, rfl, rfl, HJ, rfl⟩ := hrel
      by_cases hlt : j ≤ k
      · have x2 := C2.out j _ (passes_at r u ps m j (by omega))
        have x1 := C1.out _ _ (pks_at ps j (by rw [HPL.out]; omega)).2
        change wr.cell? _ = some (.int .i64 (Sz ps j)) at x1
        have hsz := HPK.out.s0 j (by rw [HPL.out]; omega)
        have hbd := psum_bd r u ps HPK.out i d (by rw [HPL.out, ← HJ.out]; omega)
        have hdj : d ≤ 150 := by have := HJ.out; omega
        have hnx : Hid (psum r u ps i (d + 1) = psum r u ps i d + if pass r u ps j = true then Sz ps j else 0) := Lib.hid (by rw [HJ.out]; rfl)
        generalize psum r u ps i d = sm at hbd hnx ⊢
        generalize Sz ps j = sz at hsz hnx x1
        obtain ⟨hsz1, hsz2⟩ := hsz
        obtain ⟨hbd1, hbd2⟩ := hbd
        cases hp : pass r u ps j
        · rw [hp] at x2
          have hnx' : Hid (psum r u ps i (d + 1) = sm) := Lib.hid (by rw [hnx.out, hp]; simp)
          clear hp hnx
          go_wp2
          go_roundw
          case rel => exact ⟨d + 1, j + 1, by omega, by go_num, val_int hnx'.out.symm, Lib.hid (by have := HJ.out; omega), trivial⟩
          case measure => simp [intOf]; omega
        · rw [hp] at x2
          have hnx' : Hid (psum r u ps i (d + 1) = sm + sz) := Lib.hid (by rw [hnx.out, hp]; simp)
          clear hp hnx
          go_wp2
          go_roundw
          case rel => exact ⟨d + 1, j + 1, by omega, by go_num, val_int hnx'.out.symm, Lib.hid (by have := HJ.out; omega), trivial⟩
          case measure => simp [intOf]; omega
      · obtain rfl : j = k + 1 := by omega
        have hd : d = d0 + 1 := by have := HJ.out; have := HIK.out; omega
        subst hd
        have hlaw := holds_law r u ps HPK.out RB.out.1.1 UB.out.1.1 (by rw [HPL.out]; omega) i d0 (by rw [HPL.out, ← HIK.out]; omega)
        have hmo := at_mono ps HPK.out i d0 (by rw [HPL.out, ← HIK.out]; omega)
        rw [← HIK.out] at hlaw hmo
        have y1 := C1.out _ _ (pks_at ps k (by rw [HPL.out]; omega)).1
        have y2 := C1.out _ _ (pks_at ps i (by rw [HPL.out]; omega)).1
        change wr.cell? _ = some (.int .i64 (At ps k)) at y1
        change wr.cell? _ = some (.int .i64 (At ps i)) at y2
        have hk1 := HPK.out.a0 k (by rw [HPL.out]; omega)
        have hi1 := HPK.out.a0 i (by rw [HPL.out]; omega)
        generalize At ps k = ak at *
        generalize At ps i = ai at *
        generalize psum r u ps i (d0 + 1) = sm at *
        obtain ⟨hk1, hk2⟩ := hk1
        obtain ⟨hi1, hi2'⟩ := hi1
        generalize hx : u + r * (ak - ai) = x at hlaw
        have HX := Lib.hid hx
        clear hx
        go_wp2_with fail
        go_quiet (refine Calls.quiet_of (bound_q _ _ _ x _ RB.out.1 UB.out.1 (by omega) HX.out))
        go_wp2
        exact hR.out _ _ ⟨rfl, HB.out.trans ⟨rfl, rfl, rfl, Nat.le_refl _, fun _ _ => rfl⟩⟩
end Go.Proofs.Ytpfpjlhcmdpdkaa
