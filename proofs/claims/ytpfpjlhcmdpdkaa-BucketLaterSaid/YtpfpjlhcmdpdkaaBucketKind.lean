/-
  THE WALK OF BucketKind: it returns true. Conditions: none.
-/
import Derived.Test.YtpfpjlhcmdpdkaaBucketLaws
namespace Go.Proofs.Ytpfpjlhcmdpdkaa
open Go.RowKit
set_option linter.unusedVariables false

theorem Own.cellAt {w : World} {base : Nat} {e : TypeId} {size : Nat} {g n c : Nat} {xs : List Value} (h : Own w base e size (some ⟨g, 0, none⟩) n c xs) (j : Nat) (u : Value) (hj : xs[j]? = some u) : w.cell? ⟨g, j, none⟩ = some u := by
  by_cases hn : 0 < n
  · obtain ⟨g', e1, _, _, h2, _⟩ := h.get hn
    simp only [Option.some.injEq, Addr.mk.injEq] at e1
    obtain ⟨rfl, -, -⟩ := e1
    exact h2 j u hj
  · have hl := h.len
    obtain rfl : n = 0 := by omega
    rw [Nat.zero_mul] at hl
    rw [List.eq_nil_of_length_eq_zero hl] at hj
    simp at hj

namespace bucket
theorem psum_front (r u : Int) (l : List (Int × Int)) (i : Nat) : ∀ d, psum r u l i (d + 1) = (if pass r u l i = true then Sz l i else 0) + psum r u l (i + 1) d := by
  intro d
  induction d with
  | zero => simp [psum]
  | succ d ih =>
    have e1 : psum r u l i (d + 1 + 1) = psum r u l i (d + 1) + if pass r u l (i + (d + 1)) = true then Sz l (i + (d + 1)) else 0 := rfl
    have e2 : psum r u l (i + 1) (d + 1) = psum r u l (i + 1) d + if pass r u l (i + 1 + d) = true then Sz l (i + 1 + d) else 0 := rfl
    have e3 : i + (d + 1) = i + 1 + d := by omega
    rw [e1, e2, ih, e3]
    omega
theorem avail_from (r u : Int) (l : List (Int × Int)) : ∀ k, ∃ q d, q + d = k ∧ avail r u l k = u + r * (At l k - At l q) - psum r u l q d := by
  intro k
  induction k with
  | zero => exact ⟨0, 0, rfl, by simp [avail, psum]⟩
  | succ k ih =>
    obtain ⟨q, d, hq, he⟩ := ih
    by_cases hc : u ≤ left r u l (k + 1) + r * (At l (k + 1) - At l k)
    · refine ⟨k + 1, 0, rfl, ?_⟩
      have : avail r u l (k + 1) = min u (left r u l (k + 1) + r * (At l (k + 1) - At l k)) := rfl
      rw [this, Int.min_eq_left hc]
      simp [psum]
    · refine ⟨q, d + 1, by omega, ?_⟩
      have h1 : avail r u l (k + 1) = min u (left r u l (k + 1) + r * (At l (k + 1) - At l k)) := rfl
      have h2 := left_pass r u l k
      have h3 : r * (At l (k + 1) - At l q) = r * (At l k - At l q) + r * (At l (k + 1) - At l k) := by
        rw [← Int.mul_add]; congr 1; omega
      have e1 : psum r u l q (d + 1) = psum r u l q d + if pass r u l (q + d) = true then Sz l (q + d) else 0 := rfl
      rw [h1, Int.min_eq_right (by omega), h3, e1, hq]
      omega
theorem kind_law (r u : Int) (l : List (Int × Int)) (k : Nat) (h : pass r u l k = false) : ∃ q, q ≤ k ∧ u + r * (At l k - At l q) < Sz l k + psum r u l q (k - q) := by
  obtain ⟨q, d, hq, he⟩ := avail_from r u l k
  refine ⟨q, by omega, ?_⟩
  have hd : k - q = d := by omega
  simp only [pass, decide_eq_false_iff_not] at h
  rw [hd]
  omega
/-- the sum behind the loop's step at i -/
def ksum (r u : Int) (l : List (Int × Int)) (k i : Nat) : Int := Sz l k + psum r u l i (k - i)
theorem ksum_end (r u : Int) (l : List (Int × Int)) (k : Nat) : ksum r u l k k = Sz l k ∧ ksum r u l k (k + 1) = Sz l k := by
  have : k - (k + 1) = 0 := by omega
  simp [ksum, psum, this]
theorem ksum_step (r u : Int) (l : List (Int × Int)) (k i : Nat) (h : i < k) : ksum r u l k i = ksum r u l k (i + 1) + if pass r u l i = true then Sz l i else 0 := by
  have e : k - i = (k - (i + 1)) + 1 := by omega
  simp only [ksum]
  rw [e, psum_front]
  omega
theorem ksum_bd (r u : Int) (l : List (Int × Int)) (h : PK l) (k i : Nat) (hi : i ≤ k + 1) (hk : k < l.length) : 0 ≤ ksum r u l k i ∧ ksum r u l k i ≤ 300 * ((k : Int) + 1) := by
  have h1 := h.s0 k hk
  by_cases hc : i ≤ k
  · have h2 := psum_bd r u l h i (k - i) (by omega)
    simp only [ksum]; omega
  · obtain rfl : i = k + 1 := by omega
    rw [(ksum_end r u l k).2]; omega
end bucket
open bucket

set_option maxHeartbeats 4000000 in
set_option maxRecDepth 100000 in
theorem bucketKind_walk (a0 : Int) (a1 : Int) (a2 : Option Addr) (len2 cap2 : Nat) (z2 : List Int) (a3 : Int) (w : World) (w0 : (Lit.int .i64 a0).wf = true) (w1 : (Lit.int .i64 a1).wf = true) (w2 : IsRow .i64 w a2 len2 cap2 z2) (w3 : (Lit.int .i64 a3).wf = true) :
    Calls Try.prog 6 #[.int .i64 a0, .int .i64 a1, .slice a2 len2 cap2, .int .i64 a3] w fun e w' => e = .returned (.bool true) ∧ Below w.heap.size w w' := by
  refine calls_hide fun R hR => ?_
  obtain ⟨hsl, hwf⟩ := w2.sl
  clear w0 w1 w2 w3
  have HW := Lib.hid hwf
  clear hwf
  obtain ⟨r, hr⟩ : ∃ r, a0 % 60 = r := ⟨_, rfl⟩
  obtain ⟨u, hu⟩ : ∃ u, a1 % 900 = u := ⟨_, rfl⟩
  have hrb : 0 ≤ r ∧ r ≤ 1000 := by omega
  have hub : 0 ≤ u ∧ u ≤ 100000 := by omega
  have RB := Lib.hid (And.intro hrb (show r < 60 by omega))
  have UB := Lib.hid (And.intro hub (show u < 900 by omega))
  clear hrb hub
  go_enter Try.func6, Try.ntmps6
  go_wp2_with fail
  refine (picked_is a0 60 r _ (by omega) (by omega) hr).mono ?_
  rintro e w' ⟨rfl, rfl⟩
  go_wp2_with fail
  refine (picked_is a1 900 u _ (by omega) (by omega) hu).mono ?_
  rintro e w' ⟨rfl, rfl⟩
  clear hr hu
  go_wp2_with fail
  refine (packets_any _ _ _ _ 150 _ hsl HW.out (by omega)).mono ?_
  rintro e v1 ⟨ps, ao1, m, c1, hpl, hpk, hm, rfl, ho1, hb1⟩
  have hs1 := hb1.size
  have hc1 := ho1.sl.cap
  have hlc1 := ho1.sl.le
  unfold maxLen at hc1
  go_wp2_with fail
  refine (bucketed_any r u _ _ _ ps _ ho1.sl RB.out.1 UB.out.1 (by omega) (hpk.ok (by omega))).mono ?_
  rintro e v2 ⟨ao2, c2, rfl, ho2, hb2⟩
  have hs2 := hb2.size
  have hc2 := ho2.sl.cap
  have hlc2 := ho2.sl.le
  unfold maxLen at hc2
  have HB := Lib.hid (hb1.trans (hb2.mono (by omega)))
  have H1 := Lib.hid (ho1.below hb2)
  have H2 := Lib.hid ho2
  have HPL := Lib.hid hpl
  have HPK := Lib.hid hpk
  clear ho1 ho2 hb1 hb2 hsl hpl hpk
  by_cases hm0 : m = 0
  · subst hm0
    go_wp2
    exact hR.out _ _ ⟨rfl, HB.out⟩
  · obtain ⟨k, hk⟩ : ∃ i : Nat, a3 % (m : Int) = i := ⟨(a3 % (m : Int)).toNat, by have := Int.emod_nonneg a3 (show (m : Int) ≠ 0 by omega); omega⟩
    have hk2 : (k : Int) < m := by have := Int.emod_lt_of_pos a3 (show (0 : Int) < (m : Int) by omega); omega
    obtain ⟨b1, rfl, hb10, hb1, -, -⟩ := H1.out.get (by omega)
    obtain ⟨b2, rfl, hb20, hb2, -, -⟩ := H2.out.get (by omega)
    have xk := H2.out.cellAt k _ (passes_at r u ps m k (by omega))
    go_wp2_with fail
    refine (picked_is a3 m k _ (by omega) (by omega) hk).mono ?_
    rintro e w' ⟨rfl, rfl⟩
    clear hk
    cases hp : pass r u ps k
    rotate_left
    · rw [hp] at xk
      clear hp
      go_wp2
      exact hR.out _ _ ⟨rfl, HB.out⟩
    · rw [hp] at xk
      obtain ⟨q, hqk, hql⟩ := kind_law r u ps k hp
      clear hp
      have x1 := H1.out.cellAt _ _ (pks_at ps k (by rw [HPL.out]; omega)).2
      change v2.cell? _ = some (.int .i64 (Sz ps k)) at x1
      have hszk := (ksum_end r u ps k).2
      have HQL : Hid (u + r * (At ps k - At ps q) < ksum r u ps k q) := Lib.hid hql
      clear hql
      rw [← hszk] at x1
      have HEND := Lib.hid (ksum_end r u ps k)
      clear hszk
      go_wp2_with fail
      clear xk x1
      go_loopw [15, 16] (fun s i wr => ∃ (ii : Nat), ii ≤ k ∧ q ≤ ii ∧ i = .int .i64 ii ∧ s = .int .i64 (ksum r u ps k (ii + 1)) ∧ Hid (wr.heap = v2.heap ∧ Below w.heap.size w wr)) (fun _ i _ => (intOf i).toNat)
      case atStart => exact ⟨k, by omega, by omega, rfl, rfl, Lib.hid ⟨rfl, HB.out⟩⟩
      case round =>
        obtain ⟨i, hik, hqi, rfl, rfl, HH⟩ := hrel
        have G1 : Hid (∀ j u, (pks ps)[j]? = some u → wr.cell? ⟨b1, j, none⟩ = some u) := Lib.hid (H1.out.keep (fun k _ => by rw [HH.out.1])).cellAt
        have x2 := (H2.out.keep (w' := wr) (fun k _ => by rw [HH.out.1])).cellAt i _ (passes_at r u ps m i (by omega))
        have x1 := G1.out _ _ (pks_at ps i (by rw [HPL.out]; omega)).2
        have y1 := G1.out _ _ (pks_at ps k (by rw [HPL.out]; omega)).1
        have y2 := G1.out _ _ (pks_at ps i (by rw [HPL.out]; omega)).1
        change wr.cell? _ = some (.int .i64 (Sz ps i)) at x1
        change wr.cell? _ = some (.int .i64 (At ps k)) at y1
        change wr.cell? _ = some (.int .i64 (At ps i)) at y2
        have hb1w : b1 < wr.heap.size := by rw [HH.out.1]; exact hb1
        have hb2w : b2 < wr.heap.size := by rw [HH.out.1]; exact hb2
        have hmo := at_mono ps HPK.out i (k - i) (by rw [HPL.out]; omega)
        rw [show i + (k - i) = k by omega] at hmo
        have hk1 := HPK.out.a0 k (by rw [HPL.out]; omega)
        have hi1 := HPK.out.a0 i (by rw [HPL.out]; omega)
        have hsz := HPK.out.s0 i (by rw [HPL.out]; omega)
        have hbd := ksum_bd r u ps HPK.out k (i + 1) (by omega) (by rw [HPL.out]; omega)
        have hbd' := ksum_bd r u ps HPK.out k i (by omega) (by rw [HPL.out]; omega)
        have hstop : Hid (i = q → u + r * (At ps k - At ps i) < ksum r u ps k i) := Lib.hid (fun h => h ▸ HQL.out)
        have hcs : (k ≤ i ∧ ksum r u ps k i = ksum r u ps k (i + 1)) ∨ (i < k ∧ pass r u ps i = false ∧ ksum r u ps k i = ksum r u ps k (i + 1)) ∨ (i < k ∧ pass r u ps i = true ∧ ksum r u ps k i = ksum r u ps k (i + 1) + Sz ps i) := by
          by_cases h : i < k
          · have hst := ksum_step r u ps k i h
            cases hp : pass r u ps i
            · rw [hp] at hst
              exact .inr (.inl ⟨h, rfl, by simpa using hst⟩)
            · rw [hp] at hst
              exact .inr (.inr ⟨h, rfl, by simpa using hst⟩)
          · obtain rfl : i = k := by omega
            exact .inl ⟨Nat.le_refl _, by rw [HEND.out.1, HEND.out.2]⟩
        have hrel' : Hid (∀ i', i' + 1 = i → ksum r u ps k (i' + 1) = ksum r u ps k i) := Lib.hid (fun i' h => by rw [h])
        generalize ksum r u ps k (i + 1) = sm at hcs hbd ⊢
        generalize hsn : ksum r u ps k i = sn at hcs hbd' hstop hrel'
        generalize hak : At ps k = ak at y1 hmo hk1 hstop
        generalize hai : At ps i = ai at y2 hmo hi1 hstop
        generalize Sz ps i = sz at x1 hsz hcs
        clear hsn hak hai
        generalize hps : pass r u ps i = pi at x2 hcs
        clear hps
        obtain ⟨x, hx⟩ : ∃ x, u + r * (ak - ai) = x := ⟨_, rfl⟩
        rw [hx] at hstop
        have HX := Lib.hid hx
        have hxb : 0 ≤ x ∧ x ≤ 1000000 := by
          have h1 : 0 ≤ r * (ak - ai) := Int.mul_nonneg RB.out.1.1 (by omega)
          have h2 : r * (ak - ai) ≤ 60 * (ak - ai) := Int.mul_le_mul_of_nonneg_right (by have := RB.out.2; omega) (by omega)
          have := UB.out
          omega
        clear hx
        obtain ⟨hxb1, hxb2⟩ := hxb
        obtain ⟨hk1, hk2'⟩ := hk1
        obtain ⟨hi1, hi2'⟩ := hi1
        obtain ⟨hsz1, hsz2⟩ := hsz
        obtain ⟨hbd1, hbd2⟩ := hbd
        obtain ⟨hbd3, hbd4⟩ := hbd'
        rcases hcs with ⟨hlt, hnew⟩ | ⟨hlt, rfl, hnew⟩ | ⟨hlt, rfl, hnew⟩
        all_goals
          have HN := Lib.hid hnew
          clear hnew
          go_wp2_with fail
          go_quiet (refine Calls.quiet_of (bound_q _ _ _ x _ RB.out.1 UB.out.1 (by omega) HX.out))
          by_cases hgt : x < sn
          · rw [HN.out] at hgt
            go_wp2
            exact hR.out _ _ ⟨rfl, HH.out.2.trans ⟨rfl, rfl, rfl, Nat.le_refl _, fun _ _ => rfl⟩⟩
          · have hqi' : q < i := by
              have h1 := hstop.out
              by_cases h2 : i = q
              · exact absurd (h1 h2) hgt
              · omega
            have hr0 := hrel'.out (i - 1) (by omega)
            rw [HN.out] at hgt hr0
            have HR0 := Lib.hid hr0
            clear hr0
            go_wp2
            go_roundw
            case rel => exact ⟨i - 1, by omega, by omega, val_int (by omega), val_int HR0.out.symm, Lib.hid ⟨HH.out.1, HH.out.2.trans ⟨rfl, rfl, rfl, Nat.le_refl _, fun _ _ => rfl⟩⟩⟩
            case measure => simp [intOf]; omega
end Go.Proofs.Ytpfpjlhcmdpdkaa
