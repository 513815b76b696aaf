/-
  THE WALK OF BucketRests: it returns true. Conditions: none.
-/
import Derived.Test.YtpfpjlhcmdpdkaaBucketKind
namespace Go.Proofs.Ytpfpjlhcmdpdkaa
open Go.RowKit
set_option linter.unusedVariables false

namespace bucket
theorem OK.snoc {l : List (Int × Int)} (h : OK l) (d s : Int) (hd : 0 ≤ d) (h1 : 0 ≤ lastAt l l.length) (h2 : lastAt l l.length + d ≤ 1048576) (hs : 1 ≤ s ∧ s ≤ 1500) : OK (l ++ [(lastAt l l.length + d, s)]) := by
  have e := at_append_eq l (lastAt l l.length + d, s)
  refine ⟨fun i hi => ?_, fun i hi => ?_, fun i hi => ?_⟩
  · simp at hi
    by_cases h1 : i < l.length
    · rw [(at_append_lt l _ i h1).1]; exact h.a0 i h1
    · obtain rfl : i = l.length := by omega
      rw [e.1]; simp only; omega
  · simp at hi
    by_cases h1 : i < l.length
    · rw [(at_append_lt l _ i h1).2]; exact h.s0 i h1
    · obtain rfl : i = l.length := by omega
      rw [e.2]; exact hs
  · simp at hi
    rw [(at_append_lt l _ i (by omega)).1]
    by_cases h1 : i + 1 < l.length
    · rw [(at_append_lt l _ (i + 1) h1).1]; exact h.up i h1
    · obtain h2 : i + 1 = l.length := by omega
      rw [h2, e.1, ← h2]; simp only [lastAt]; omega
theorem rests_last (r u : Int) (l : List (Int × Int)) (d s : Int) (hr : 0 ≤ r) (hu : 0 ≤ u) (hok : OK (l ++ [(lastAt l l.length + d, s)])) (hd : u ≤ r * d) (hs : s ≤ u) : pass r u (l ++ [(lastAt l l.length + d, s)]) l.length = true := by
  have e := at_append_eq l (lastAt l l.length + d, s)
  simp only [pass, decide_eq_true_eq]
  rw [e.2]
  show s ≤ _
  generalize hL : l ++ [(lastAt l l.length + d, s)] = L at hok e ⊢
  cases hk : l.length with
  | zero => simp only [avail]; exact hs
  | succ k =>
    have h1 : avail r u L (k + 1) = min u (left r u L (k + 1) + r * (At L (k + 1) - At L k)) := rfl
    have hLl : L.length = k + 2 := by rw [← hL]; simp [hk]
    have h2 := (left_bd r u L hr hu hok (k + 1) (by omega)).1
    have h3 : At L k = lastAt l l.length := by rw [← hL, (at_append_lt l _ k (by omega)).1, hk]; rfl
    have h4 : At L (k + 1) = lastAt l l.length + d := by rw [← hk]; exact e.1
    rw [h1, h3, h4, show lastAt l l.length + d - lastAt l l.length = d by omega]
    omega

def slowL (x : Int) (k : Nat) : List (Int × Int) := (List.range k).map fun i : Nat => ((i : Int), x)
theorem slow_len (x : Int) (k : Nat) : (slowL x k).length = k := by simp [slowL]
theorem slow_snoc (x : Int) (k : Nat) : pks (slowL x (k + 1)) = pks (slowL x k) ++ [.int .i64 k, .int .i64 x] := by
  simp only [slowL, List.range_succ, List.map_append, pks_append]
  rfl
theorem slow_at (x : Int) (k i : Nat) (h : i < k) : At (slowL x k) i = i ∧ Sz (slowL x k) i = x := by
  simp [At, Sz, slowL, List.getD_eq_getElem?_getD, h]
theorem slow_ok (x : Int) (k : Nat) (hx : 1 ≤ x ∧ x ≤ 1500) (hk : k ≤ 1000) : OK (slowL x k) := by
  refine ⟨fun i hi => ?_, fun i hi => ?_, fun i hi => ?_⟩
  · rw [slow_len] at hi
    rw [(slow_at x k i hi).1]; omega
  · rw [slow_len] at hi
    rw [(slow_at x k i hi).2]; exact hx
  · rw [slow_len] at hi
    rw [(slow_at x k i (by omega)).1, (slow_at x k (i + 1) hi).1]; omega
theorem slow_pass (r u x : Int) (k : Nat) (hr : 0 ≤ r) (hu : 0 ≤ u) (h1 : x ≤ r) (h2 : x ≤ u) (hx : 1 ≤ x ∧ x ≤ 1500) (hk : k ≤ 1000) (i : Nat) (hi : i < k) : pass r u (slowL x k) i = true := by
  simp only [pass, decide_eq_true_eq]
  rw [(slow_at x k i hi).2]
  cases i with
  | zero => simpa [avail] using h2
  | succ i =>
    have h3 : avail r u (slowL x k) (i + 1) = min u (left r u (slowL x k) (i + 1) + r * (At (slowL x k) (i + 1) - At (slowL x k) i)) := rfl
    have h4 := (left_bd r u (slowL x k) hr hu (slow_ok x k hx hk) (i + 1) (by rw [slow_len]; omega)).1
    rw [h3, (slow_at x k i (by omega)).1, (slow_at x k (i + 1) hi).1]
    have e : ((i + 1 : Nat) : Int) - (i : Int) = 1 := by omega
    rw [e, Int.mul_one]
    omega
end bucket
open bucket

set_option maxHeartbeats 4000000 in
set_option maxRecDepth 100000 in
theorem bucketRests_walk (a0 : Int) (a1 : Int) (a2 : Option Addr) (len2 cap2 : Nat) (z2 : List Int) (a3 : Int) (w : World) (w0 : (Lit.int .i64 a0).wf = true) (w1 : (Lit.int .i64 a1).wf = true) (w2 : IsRow .i64 w a2 len2 cap2 z2) (w3 : (Lit.int .i64 a3).wf = true) :
    Calls Try.prog 3 #[.int .i64 a0, .int .i64 a1, .slice a2 len2 cap2, .int .i64 a3] w fun e w' => e = .returned (.bool true) ∧ Below w.heap.size w w' := by
  refine calls_hide fun R hR => ?_
  obtain ⟨hsl, hwf⟩ := w2.sl
  clear w0 w1 w2 w3
  have HW := Lib.hid hwf
  clear hwf
  obtain ⟨r0, hr⟩ : ∃ r, a0 % 60 = r := ⟨_, rfl⟩
  obtain ⟨u0, hu⟩ : ∃ u, a1 % 900 = u := ⟨_, rfl⟩
  obtain ⟨r, hr'⟩ : ∃ r, 1 + r0 = r := ⟨_, rfl⟩
  obtain ⟨u, hu'⟩ : ∃ u, 1 + u0 = u := ⟨_, rfl⟩
  have HR' := Lib.hid hr'
  have HU' := Lib.hid hu'
  have hr0b : 0 ≤ r0 ∧ r0 < 60 := by omega
  have hu0b : 0 ≤ u0 ∧ u0 < 900 := by omega
  have hrb : 1 ≤ r ∧ r ≤ 60 := by omega
  have hub : 1 ≤ u ∧ u ≤ 900 := by omega
  have RB := Lib.hid hrb
  have UB := Lib.hid hub
  clear hr' hu'
  obtain ⟨hr0a, hr0b⟩ := hr0b
  obtain ⟨hu0a, hu0b⟩ := hu0b
  obtain ⟨hra, hrb⟩ := hrb
  obtain ⟨hua, hub⟩ := hub
  have hqq : u.tdiv r = u / r := Int.tdiv_eq_ediv_of_nonneg (by omega)
  have hq : 0 ≤ u.tdiv r ∧ u.tdiv r ≤ 900 ∧ u ≤ r * (u.tdiv r + 1) := by
    rw [hqq]
    have h1 := Int.ediv_nonneg (show 0 ≤ u by omega) (show 0 ≤ r by omega)
    have h2 := Int.mul_ediv_add_emod u r
    have h3 := Int.emod_lt_of_pos u (show 0 < r by omega)
    have h4 := Int.ediv_le_self r (show 0 ≤ u by omega)
    refine ⟨h1, by omega, ?_⟩
    rw [Int.mul_add]; omega
  clear hqq
  have HQ := Lib.hid hq.2.2
  obtain ⟨hq1, hq2, -⟩ := hq
  have hrn : r ≠ 0 := by omega
  go_enter Try.func3, Try.ntmps3
  go_wp2_with fail
  refine (picked_is a0 60 r0 _ (by omega) (by omega) hr).mono ?_
  rintro e w' ⟨rfl, rfl⟩
  go_wp2_with fail
  rw [HR'.out]
  refine (picked_is a1 900 u0 _ (by omega) (by omega) hu).mono ?_
  rintro e w' ⟨rfl, rfl⟩
  clear hr hu
  go_wp2_with fail
  rw [HU'.out]
  refine (packets_any _ _ _ _ 100 _ hsl HW.out (by omega)).mono ?_
  rintro e v1 ⟨ps, ao1, m, c1, hpl, hpk, hm, rfl, ho1, hb1⟩
  have hs1 := hb1.size
  have hc1 := ho1.sl.cap
  have hlc1 := ho1.sl.le
  unfold maxLen at hc1
  have H1 := Lib.hid ho1
  have HB1 := Lib.hid hb1
  have hla := hpk.last m (by omega)
  have HPL := Lib.hid hpl
  have HPK := Lib.hid hpk
  clear ho1 hb1 hsl hpl hpk
  obtain ⟨T, hT⟩ : ∃ T, u.tdiv r + 1 + lastAt ps m = T := ⟨_, rfl⟩
  obtain ⟨hla1, hla2⟩ := hla
  have hTb : 0 ≤ T ∧ T ≤ 10000 := by omega
  have hdis : (m ≤ 0 ∧ Hid (u.tdiv r + 1 = T)) ∨ (0 < m ∧ ∃ (p b1 : Nat), ao1 = some ⟨b1, 0, none⟩ ∧ b1 < v1.heap.size ∧ (m : Int) - 1 = p ∧ v1.cell? ⟨b1, p * 2, none⟩ = some (.int .i64 (lastAt ps m)) ∧ Hid (u.tdiv r + 1 + lastAt ps m = T)) := by
    by_cases h0 : 0 < m
    · obtain ⟨b1, hb1, hb10, hb1s, hcc, -⟩ := H1.out.get h0
      have x := hcc _ _ (pks_at ps (m - 1) (by rw [HPL.out]; omega)).1
      refine .inr ⟨h0, m - 1, b1, hb1, hb1s, by omega, ?_, Lib.hid hT⟩
      obtain ⟨p, rfl⟩ : ∃ p, m = p + 1 := ⟨m - 1, by omega⟩
      exact x
    · obtain rfl : m = 0 := by omega
      exact .inl ⟨by omega, Lib.hid (by rw [← hT]; simp [lastAt])⟩
  have HT := Lib.hid hT
  clear hT
  obtain ⟨n0, hn0⟩ : ∃ n0, a3 % u = n0 := ⟨_, rfl⟩
  have hn0b : 0 ≤ n0 ∧ n0 < u := by
    have h1 := Int.emod_nonneg a3 (show u ≠ 0 by omega)
    have h2 := Int.emod_lt_of_pos a3 (show 0 < u by omega)
    omega
  obtain ⟨hn0a, hn0b⟩ := hn0b
  obtain ⟨n, hn⟩ : ∃ n, 1 + n0 = n := ⟨_, rfl⟩
  have hnb : 1 ≤ n ∧ n ≤ u := by omega
  have HN := Lib.hid hn
  have HNB := Lib.hid hnb
  have HN0 := Lib.hid hn0
  clear hn hn0 hnb
  have hok0 : OK (ps ++ [(lastAt ps ps.length + (u.tdiv r + 1), n)]) := (HPK.out.ok (by rw [HPL.out]; omega)).snoc _ _ (by omega) (by rw [HPL.out]; exact hla1) (by rw [HPL.out]; omega) (by have := HNB.out; omega)
  have hlast0 := rests_last r u ps (u.tdiv r + 1) n (by omega) (by omega) hok0 HQ.out HNB.out.2
  rw [HPL.out, show lastAt ps m + (u.tdiv r + 1) = T by rw [← HT.out]; omega] at hok0 hlast0
  have HOK := Lib.hid hok0
  have HLAST := Lib.hid hlast0
  clear hok0 hlast0
  obtain ⟨x, hxr, hxu, hx1, hxc⟩ : ∃ x : Int, x ≤ r ∧ x ≤ u ∧ 1 ≤ x ∧ ((r ≤ u ∧ r = x) ∨ (u < r ∧ u = x)) := ⟨min r u, by omega, by omega, by omega, by omega⟩
  have HXC := Lib.hid hxc
  clear hxc
  rcases hdis with ⟨hm0, HT2⟩ | ⟨hm0, p, b1, rfl, hb1, hmp, hcell, HT2⟩
  all_goals
    go_wp2_with fail
    first
      | rw [HT2.out]
      | skip
    refine (picked_is a3 u n0 _ (by omega) (by omega) HN0.out).mono ?_
    rintro e w' ⟨rfl, rfl⟩
    go_wp2_with (at_builtin; (refine wpList_append_sl rfl _ _ _ rfl _ _ _ v1.heap.size elem_pk none 0 0 [] rfl (Own.nil _ _ _ _) _ m c1 _ rfl H1.out.sl (by omega) (by unfold maxLen; omega) (Nat.le_refl _) ?_))
    intro ao2 c2 v2 hown2 hg2
    have hb2 : Below v1.heap.size v1 v2 := hg2.below (Below.refl _ _) (Nat.le_refl _) (fun k hk => by simp [blk] at hk)
    have hs2 := hb2.size
    have HO2 := Lib.hid hown2
    have HB2 := Lib.hid hb2
    clear hown2 hb2 hg2
    go_wp2_with (at_builtin; (rw [HN.out]; refine wpList_append_sl rfl _ _ _ rfl _ _ _ v1.heap.size elem_pk ao2 m c2 _ rfl (HO2.out.alloc _) _ 1 1 (pks [(T, n)]) rfl (Sl.litB _ _ 1 2 (pks [(T, n)]) _ rfl rfl (by omega) (pks_one _)) (by omega) (by unfold maxLen; omega) (by simp; omega) ?_))
    intro ao3 c3 v3 hown3 hg3
    have hb3 : Below v1.heap.size v1 v3 := hg3.below (HB2.out.alloc (by omega) _) (by simp; omega) (fun k hk => (HO2.out.blk_lt k hk).1)
    have hs3 := hb3.size
    have HO3 : Hid (Own v3 v1.heap.size 27 2 ao3 (m + 1) c3 (pks (ps ++ [(T, n)]))) := Lib.hid (by rw [pks_append]; exact hown3)
    have HB3 := Lib.hid hb3
    clear hown3 hb3 hg3
    have hc3 := HO3.out.sl.cap
    have hl3 := HO3.out.sl.le
    unfold maxLen at hc3
    go_wp2_with fail
    refine (bucketed_any r u _ _ _ (ps ++ [(T, n)]) _ HO3.out.sl (by omega) (by omega) (by omega) HOK.out).mono ?_
    rintro e v4 ⟨ao4, c4, rfl, ho4, hb4⟩
    have hs4 := hb4.size
    have hc4 := ho4.sl.cap
    have hl4 := ho4.sl.le
    unfold maxLen at hc4
    have HO4 := Lib.hid ho4
    have HB4 := Lib.hid ((HB1.out.trans (HB3.out.mono (by omega))).trans (hb4.mono (by omega)))
    clear ho4 hb4
    go_wp2_with fail
    go_loopw [17, 18] (fun s i wr => ∃ (k : Nat) (ao : Option Addr) (c : Nat), k ≤ 100 ∧ i = .int .i64 k ∧ s = .slice ao k c ∧ Hid (Own wr v4.heap.size 27 2 ao k c (pks (slowL x k)) ∧ Below v4.heap.size v4 wr)) (fun _ i _ => 100 - (intOf i).toNat)
    case atStart => exact ⟨0, none, 0, by omega, rfl, rfl, Lib.hid ⟨Own.nil _ _ _ _, Below.refl _ _⟩⟩
    case round =>
      obtain ⟨k, ao, c, hk, rfl, rfl, HH⟩ := hrel
      have hsr := HH.out.2.size
      by_cases hlt : k < 100
      · rcases HXC.out with ⟨hx, rfl⟩ | ⟨hx, rfl⟩
        all_goals
          go_wp2_with (at_builtin; (refine wpList_append_sl rfl _ _ _ rfl _ _ _ v4.heap.size elem_pk ao k c _ rfl (HH.out.1.alloc _) _ 1 1 (pks [((k : Int), _)]) rfl (Sl.litB _ _ 1 2 (pks [((k : Int), _)]) _ rfl rfl (by omega) (pks_one _)) (by omega) (by unfold maxLen; omega) (by simp; omega) ?_))
          intro ao' c' w' hown hg
          have hf := Lib.hid (And.intro hown (hg.below (HH.out.2.alloc hsr _) (by simp; omega) (fun k hk => (HH.out.1.blk_lt k hk).1)))
          clear hown hg
          go_wp2
          go_roundw
          case rel => exact ⟨k + 1, ao', c', by omega, by go_num, rfl, Lib.hid ⟨by rw [slow_snoc]; exact hf.out.1, hf.out.2⟩⟩
          case measure => simp [intOf]; omega
      · obtain rfl : k = 100 := by omega
        have hc5 := HH.out.1.sl.cap
        have hl5 := HH.out.1.sl.le
        unfold maxLen at hc5
        go_wp2_with fail
        refine (bucketed_any r u _ _ _ (slowL x 100) _ HH.out.1.sl (by omega) (by omega) (by omega) (slow_ok x 100 (by omega) (by omega))).mono ?_
        rintro e v5 ⟨ao5, c5, rfl, ho5, hb5⟩
        have hs5 := hb5.size
        have H4 := Lib.hid ((HO4.out.below HH.out.2).below hb5)
        have HBF := Lib.hid ((HB4.out.trans (HH.out.2.mono (by omega))).trans (hb5.mono (by omega)))
        obtain ⟨b4, rfl, -, hb4s, hcc4, -⟩ := H4.out.get (by omega)
        have xl := hcc4 _ _ (passes_at r u (ps ++ [(T, n)]) (m + 1) m (by omega))
        rw [HLAST.out] at xl
        obtain ⟨b5, rfl, -, hb5s, hcc5, -⟩ := ho5.get (by omega)
        have hc6 := ho5.sl.cap
        have hl6 := ho5.sl.le
        unfold maxLen at hc6
        have C5 : Hid (∀ i, i < 100 → v5.cell? ⟨b5, i, none⟩ = some (.bool true)) := Lib.hid (fun i hi => by
          have y := hcc5 _ _ (passes_at r u (slowL x 100) 100 i hi)
          rw [slow_pass r u x 100 (by omega) (by omega) hxr hxu (by omega) (by omega) i hi] at y
          exact y)
        clear hcc4 hcc5 ho5 hb5
        go_wp2_with fail
        go_loopw [21] (fun i wr => ∃ (k : Nat), k ≤ 100 ∧ i = .int .i64 k ∧ wr = v5) (fun i _ => 100 - (intOf i).toNat)
        case atStart => exact ⟨0, by omega, rfl, rfl⟩
        case round =>
          obtain ⟨k, hk, rfl, rfl⟩ := hrel
          by_cases hlt : k < 100
          · have y := C5.out k hlt
            go_wp2
            go_roundw
            case rel => exact ⟨k + 1, by omega, by go_num, trivial⟩
            case measure => simp [intOf]; omega
          · obtain rfl : k = 100 := by omega
            go_wp2
            exact hR.out _ _ ⟨rfl, HBF.out⟩
end Go.Proofs.Ytpfpjlhcmdpdkaa
