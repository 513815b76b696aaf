/-
  THE WALK OF BucketLater: it returns true. Conditions: none.
-/
import Derived.Test.YtpfpjlhcmdpdkaaBucketFew
namespace Go.Proofs.Ytpfpjlhcmdpdkaa
open Go.RowKit
open bucket
set_option linter.unusedVariables false

set_option maxHeartbeats 4000000 in
set_option maxRecDepth 100000 in
theorem bucketLater_walk (a0 : Int) (a1 : Int) (a2 : Option Addr) (len2 cap2 : Nat) (z2 : List Int) (a3 : Int) (w : World) (w0 : (Lit.int .i64 a0).wf = true) (w1 : (Lit.int .i64 a1).wf = true) (w2 : IsRow .i64 w a2 len2 cap2 z2) (w3 : (Lit.int .i64 a3).wf = true) :
    Calls Try.prog 4 #[.int .i64 a0, .int .i64 a1, .slice a2 len2 cap2, .int .i64 a3] w fun e w' => e = .returned (.bool true) ∧ Below w.heap.size w w' := by
  refine calls_hide fun R hR => ?_
  obtain ⟨hsl, hwf⟩ := w2.sl
  clear w0 w1 w2 w3
  have HW := Lib.hid hwf
  clear hwf
  obtain ⟨r, hr⟩ : ∃ r, a0 % 60 = r := ⟨_, rfl⟩
  obtain ⟨u, hu⟩ : ∃ u, a1 % 900 = u := ⟨_, rfl⟩
  obtain ⟨dl, hdl⟩ : ∃ d, a3 % 10000 = d := ⟨_, rfl⟩
  have hdlb : 0 ≤ dl ∧ dl ≤ 10000 := by omega
  have HDL := Lib.hid hdl
  have hrb : 0 ≤ r ∧ r ≤ 1000 := by omega
  have hub : 0 ≤ u ∧ u ≤ 100000 := by omega
  have RB := Lib.hid hrb
  have UB := Lib.hid hub
  have DB := Lib.hid hdlb
  obtain ⟨hdl1, hdl2⟩ := hdlb
  clear hrb hub hdl
  go_enter Try.func4, Try.ntmps4
  go_wp2_with fail
  refine (picked_is a0 60 r _ (by omega) (by omega) hr).mono ?_
  rintro e w' ⟨rfl, rfl⟩
  go_wp2_with fail
  refine (picked_is a1 900 u _ (by omega) (by omega) hu).mono ?_
  rintro e w' ⟨rfl, rfl⟩
  clear hr hu
  go_wp2_with fail
  refine (packets_any _ _ _ _ 150 _ hsl HW.out (by omega)).mono ?_
  rintro e v1 ⟨ps, ao1, m, c1, hpl, hpk, hm, rfl, ho1, hb1⟩
  have hs1 := hb1.size
  have hc1 := ho1.sl.cap
  have hlc1 := ho1.sl.le
  unfold maxLen at hc1
  have HOK := Lib.hid (hpk.ok (by omega))
  go_wp2_with fail
  refine (bucketed_any r u _ _ _ ps _ ho1.sl RB.out UB.out (by omega) HOK.out).mono ?_
  rintro e v2 ⟨ao2, c2, rfl, ho2, hb2⟩
  have hs2 := hb2.size
  have hc2 := ho2.sl.cap
  have hlc2 := ho2.sl.le
  unfold maxLen at hc2
  have HB := Lib.hid (hb1.trans (hb2.mono (by omega)))
  have H1 := Lib.hid (ho1.below hb2)
  have H2 := Lib.hid ho2
  have HPL := Lib.hid hpl
  have HPK := Lib.hid hpk
  clear ho1 ho2 hb1 hb2 hsl hpl hpk
  go_wp2_with fail
  go_loopw [14, 15] (fun s i wr => ∃ (k : Nat) (ao : Option Addr) (c : Nat), k ≤ m ∧ i = .int .i64 k ∧ s = .slice ao k c ∧ Hid (Own wr v2.heap.size 27 2 ao k c (pks (laterL dl (ps.take k))) ∧ Below v2.heap.size v2 wr)) (fun _ i _ => m - (intOf i).toNat)
  case atStart => exact ⟨0, none, 0, by omega, rfl, rfl, Lib.hid ⟨Own.nil _ _ _ _, Below.refl _ _⟩⟩
  case round =>
    obtain ⟨k, ao, c, hk, rfl, rfl, HH⟩ := hrel
    have hsr := HH.out.2.size
    by_cases hlt : k < m
    · obtain ⟨b1, rfl, -, hb1s, hcc, -⟩ := (H1.out.below HH.out.2).get (by omega)
      have c0 := hcc _ _ (pks_at ps k (by rw [HPL.out]; omega)).1
      have c1 := hcc _ _ (pks_at ps k (by rw [HPL.out]; omega)).2
      change wr.cell? _ = some (.int .i64 (At ps k)) at c0
      change wr.cell? _ = some (.int .i64 (Sz ps k)) at c1
      have hk1 := HPK.out.a0 k (by rw [HPL.out]; omega)
      have hk2 := HPK.out.s0 k (by rw [HPL.out]; omega)
      have HT := Lib.hid (later_take dl ps k (by rw [HPL.out]; omega))
      clear hcc
      generalize At ps k = ak at c0 hk1 HT
      generalize Sz ps k = sz at c1 hk2 HT
      obtain ⟨hk1, hk1'⟩ := hk1
      obtain ⟨hk2, hk2'⟩ := hk2
      have B1 := Lib.hid (show (k + 1) * 16 ≤ 140737488355328 by omega)
      have B2 := Lib.hid (show k + 1 ≤ maxLen by unfold maxLen; omega)
      have B3 := Lib.hid (show ∀ o, v2.heap.size ≤ (wr.alloc o).drew.heap.size from fun o => by simp; omega)
      have e1 : IntKind.i64.wrap (ak + dl) = ak + dl := IntWalk.i64_in _ (by omega)
      have e2 : 0 ≤ (k : Int) := by omega
      have e3 : (k : Int) < (m : Int) := by omega
      go_wp2_with fail
      go_region_law (first | (refine step_call (picked_is a3 10000 dl _ (by omega) (by omega) HDL.out) rfl (by simp [Region.wanted]) (by go_simp) ?_; rintro e v1 ⟨rfl, rfl⟩; refine ⟨_, rfl, ?_⟩) | (refine step_append_sl rfl (.tmp 42) (.tmp 57) _ rfl _ _ _ v2.heap.size elem_pk ao k c _ rfl (HH.out.1.alloc _).drew _ 1 1 (pks [(ak + dl, sz)]) rfl (Sl.litB _ _ 1 2 (pks [(ak + dl, sz)]) _ rfl rfl (by omega) (pks_one _)).drew B1.out B2.out (B3.out _) ?_; intro ao' c' w' h1 h2))
      all_goals
        have hb' : Below v2.heap.size v2 w' := h2.below (HH.out.2.alloc hsr _).drew (B3.out _) (fun k hk => (HH.out.1.blk_lt k hk).1)
        rw [← HT.out] at h1
        have HF := Lib.hid (And.intro h1 hb')
        clear h1 h2 hb' B1 B2 B3 e1 e2 e3
        go_wp2
        go_roundw
        case rel => exact ⟨k + 1, ao', c', by omega, by go_num, rfl, HF⟩
        case measure => simp [intOf]; omega
    · obtain rfl : k = m := by omega
      have hown := HH.out.1
      rw [List.take_of_length_le (by rw [HPL.out]; omega)] at hown
      have hc3 := hown.sl.cap
      have hl3 := hown.sl.le
      unfold maxLen at hc3
      have HLT := Lib.hid hown
      clear hown
      go_wp2_with fail
      refine (bucketed_any r u _ _ _ (laterL dl ps) _ HLT.out.sl RB.out UB.out (by omega) (later_ok dl ps HPK.out (by rw [HPL.out]; omega) DB.out)).mono ?_
      rintro e v4 ⟨ao4, c4, rfl, ho4, hb4⟩
      have hs4 := hb4.size
      have hc4 := ho4.sl.cap
      have hlc4 := ho4.sl.le
      unfold maxLen at hc4
      have G4 := Lib.hid ho4
      have G1 := Lib.hid ((H1.out.below HH.out.2).below hb4)
      have G2 := Lib.hid ((H2.out.below HH.out.2).below hb4)
      have GB := Lib.hid ((HB.out.trans (HH.out.2.mono (by omega))).trans (hb4.mono (by omega)))
      have hgb : w.heap.size ≤ v4.heap.size := by omega
      clear ho4 hb4 HH HLT H1 H2 HB
      have fin : ∀ (F : List (Int × Int)), ((k = 0 ∧ F = []) ∨ Few r u ps F (max k 1)) → OK F ∧ F.length ≤ 150 ∧ ∀ i, 1 ≤ i → i < F.length → pass r u F i = true := by
        rintro F (⟨_, rfl⟩ | h)
        · exact ⟨⟨fun i hi => by simp at hi, fun i hi => by simp at hi, fun i hi => by simp at hi⟩, by simp, fun i _ hi => by simp at hi⟩
        · exact ⟨h.ok, by have := h.n2; omega, h.al⟩
      have FIN := Lib.hid fin
      clear fin
      generalize hmk : k = m at *
      clear hmk
      have hdis : m ≤ 0 ∨ (0 < m ∧ ∃ b1 : Nat, ao1 = some ⟨b1, 0, none⟩ ∧ b1 < v4.heap.size ∧ v4.cell? ⟨b1, 0, none⟩ = some (.int .i64 (At ps 0)) ∧ v4.cell? ⟨b1, 1, none⟩ = some (.int .i64 (Sz ps 0)) ∧ Hid (Few r u ps [(At ps 0, Sz ps 0)] 1)) := by
        by_cases h0 : 0 < m
        · obtain ⟨b1, hb1, hb10, hb1s, hcc, -⟩ := G1.out.get h0
          have x := pks_at ps 0 (by rw [HPL.out]; omega)
          exact .inr ⟨h0, b1, hb1, hb1s, hcc _ _ x.1, hcc _ _ x.2, Lib.hid (Few.first r u ps HOK.out UB.out.1 RB.out.1 (by rw [HPL.out]; omega))⟩
        · exact .inl (by omega)
      rcases hdis with hm0 | ⟨hm0, b1, hao, hb1s, x0, x1, HFW⟩
      case' inl =>
        have hst : ∃ (F : List (Int × Int)) (f : Nat) (c : Nat) (ao : Option Addr), f = 0 ∧ ao = none ∧ c = 0 ∧ F.length = f ∧ ((m = 0 ∧ F = []) ∨ Few r u ps F (max 0 1)) ∧ Own v4 v4.heap.size 27 2 ao f c (pks F) ∧ Below v4.heap.size v4 v4 := ⟨[], 0, 0, none, rfl, rfl, rfl, rfl, .inl ⟨by omega, rfl⟩, Own.nil _ _ _ _, Below.refl _ _⟩
        have HST := Lib.hid hst
        clear hst
        go_wp2_with fail
        obtain ⟨F0, f0, c0, ao0, rfl, rfl, rfl, hst⟩ := HST.out
        clear hm0
      case' inr =>
        subst hao
        generalize At ps 0 = p0 at x0 HFW
        generalize Sz ps 0 = p1 at x1 HFW
        go_wp2_with (at_builtin; (refine wpList_append_sl rfl _ _ _ rfl _ _ _ v4.heap.size elem_pk none 0 0 [] rfl (Own.nil _ _ _ _) _ 1 1 (pks [(p0, p1)]) rfl (Sl.litB _ _ 1 2 (pks [(p0, p1)]) _ rfl rfl (by omega) (pks_one _)) (by omega) (by unfold maxLen; omega) (by simp) ?_))
        intro ao0 c0 w6 h1 h2
        have hb6 : Below v4.heap.size v4 w6 := h2.below ((Below.refl _ _).alloc (Nat.le_refl _) _) (by simp) (fun k hk => by simp [blk] at hk)
        have HS6 := Lib.hid (And.intro h1 hb6)
        clear h1 h2 hb6
        go_wp2_with fail
        have hst : ([(p0, p1)] : List (Int × Int)).length = 1 ∧ ((m = 0 ∧ [(p0, p1)] = []) ∨ Few r u ps [(p0, p1)] (max 0 1)) ∧ Own w6 v4.heap.size 27 2 ao0 1 c0 (pks [(p0, p1)]) ∧ Below v4.heap.size v4 w6 := ⟨rfl, .inr HFW.out, HS6.out⟩
      all_goals
        have HST2 := Lib.hid hst
        clear hst
        go_loopw [18, 19] (fun s i wr => ∃ (k f : Nat) (F : List (Int × Int)) (ao : Option Addr) (c : Nat), k ≤ m ∧ i = .int .i64 k ∧ s = .slice ao f c ∧ Hid (F.length = f ∧ ((m = 0 ∧ F = []) ∨ Few r u ps F (max k 1)) ∧ Own wr v4.heap.size 27 2 ao f c (pks F) ∧ Below v4.heap.size v4 wr)) (fun _ i _ => m - (intOf i).toNat)
        case atStart => exact ⟨0, _, _, _, _, by omega, rfl, rfl, HST2⟩
        case round =>
          obtain ⟨k, f, F, ao, c, hk, rfl, rfl, HH⟩ := hrel
          have hsr := HH.out.2.2.2.size
          have hc5 := HH.out.2.2.1.sl.cap
          have hl5 := HH.out.2.2.1.sl.le
          unfold maxLen at hc5
          by_cases hlt : k < m
          · first
              | (exfalso; omega)
              | (have hfew : Few r u ps F (max k 1) := by
                   rcases HH.out.2.1 with ⟨h, _⟩ | h
                   · omega
                   · exact h
                 have hf : f ≤ 150 := by have := hfew.n2; have := HH.out.1; omega
                 obtain ⟨q1, e1, -, q1s, hcc1, -⟩ := (G1.out.below HH.out.2.2.2).get (by omega)
                 obtain ⟨q2, e2, -, q2s, hcc2, -⟩ := (G2.out.below HH.out.2.2.2).get (by omega)
                 obtain ⟨q4, e4, -, q4s, hcc4, -⟩ := (G4.out.below HH.out.2.2.2).get (by omega)
                 try subst e1
                 try cases e1
                 subst e2
                 subst e4
                 have c0 := hcc1 _ _ (pks_at ps k (by rw [HPL.out]; omega)).1
                 have c1 := hcc1 _ _ (pks_at ps k (by rw [HPL.out]; omega)).2
                 have x2 := hcc2 _ _ (passes_at r u ps m k hlt)
                 have x4 := hcc4 _ _ (passes_at r u (laterL dl ps) m k hlt)
                 rw [later_pass r u dl ps k (by rw [HPL.out]; omega)] at x4
                 change wr.cell? _ = some (.int .i64 (At ps k)) at c0
                 change wr.cell? _ = some (.int .i64 (Sz ps k)) at c1
                 clear hcc1 hcc2 hcc4
                 have hnext : (k ≤ 0 ∧ Hid (Few r u ps F (max (k + 1) 1))) ∨ (0 < k ∧ pass r u ps k = false ∧ Hid (Few r u ps F (max (k + 1) 1))) ∨ (0 < k ∧ pass r u ps k = true ∧ Hid (Few r u ps (F ++ [(At ps k, Sz ps k)]) (max (k + 1) 1))) := by
                   by_cases h0 : 0 < k
                   · rw [show max k 1 = k by omega] at hfew
                     rw [show max (k + 1) 1 = k + 1 by omega]
                     cases hp : pass r u ps k
                     · exact .inr (.inl ⟨h0, rfl, Lib.hid (hfew.skip r u ps F k HOK.out UB.out.1 RB.out.1 (by rw [HPL.out]; omega) h0 hp)⟩)
                     · exact .inr (.inr ⟨h0, rfl, Lib.hid (hfew.take r u ps F k HOK.out UB.out.1 RB.out.1 (by rw [HPL.out]; omega) h0 hp)⟩)
                   · refine .inl ⟨by omega, Lib.hid ?_⟩
                     rw [show max (k + 1) 1 = max k 1 by omega]; exact hfew
                 clear hfew
                 generalize At ps k = ak at c0 hnext
                 generalize Sz ps k = sz at c1 hnext
                 generalize pass r u ps k = pa at x2 x4 hnext
                 rcases hnext with ⟨h0, HN⟩ | ⟨h0, rfl, HN⟩ | ⟨h0, rfl, HN⟩
                 · cases pa
                   all_goals
                     go_wp2_with fail
                     go_quiet (fail)
                     go_wp2
                     go_roundw
                     case rel => exact ⟨k + 1, f, F, ao, c, by omega, by go_num, rfl, Lib.hid ⟨HH.out.1, .inr HN.out, HH.out.2.2.1.keep (fun _ _ => rfl), HH.out.2.2.2.trans ⟨rfl, rfl, rfl, Nat.le_refl _, fun _ _ => rfl⟩⟩⟩
                     case measure => simp [intOf]; omega
                 · go_wp2_with fail
                   go_quiet (fail)
                   go_wp2
                   go_roundw
                   case rel => exact ⟨k + 1, f, F, ao, c, by omega, by go_num, rfl, Lib.hid ⟨HH.out.1, .inr HN.out, HH.out.2.2.1.keep (fun _ _ => rfl), HH.out.2.2.2.trans ⟨rfl, rfl, rfl, Nat.le_refl _, fun _ _ => rfl⟩⟩⟩
                   case measure => simp [intOf]; omega
                 · go_wp2_with fail
                   go_quiet (fail)
                   have O7 : Hid (Own (wr.drewN nq) v4.heap.size 27 2 ao f c (pks F) ∧ Below v4.heap.size v4 (wr.drewN nq)) := Lib.hid ⟨HH.out.2.2.1.keep (fun _ _ => rfl), HH.out.2.2.2.trans ⟨rfl, rfl, rfl, Nat.le_refl _, fun _ _ => rfl⟩⟩
                   go_wp2_with (at_builtin; (refine wpList_append_sl rfl _ _ _ rfl _ _ _ v4.heap.size elem_pk ao f c _ rfl (O7.out.1.alloc _) _ 1 1 (pks [(ak, sz)]) rfl (Sl.litB _ _ 1 2 (pks [(ak, sz)]) _ rfl rfl (by omega) (pks_one _)) (by omega) (by unfold maxLen; omega) (by simp; omega) ?_))
                   intro ao' c' w' h1 h2
                   have HF : Hid (Own w' v4.heap.size 27 2 ao' (f + 1) c' (pks (F ++ [(ak, sz)])) ∧ Below v4.heap.size v4 w') := Lib.hid ⟨by rw [pks_append]; exact h1, h2.below (O7.out.2.alloc hsr _) (by simp; omega) (fun k hk => (HH.out.2.2.1.blk_lt k hk).1)⟩
                   clear h1 h2
                   go_wp2
                   go_roundw
                   case rel => exact ⟨k + 1, f + 1, F ++ [(ak, sz)], ao', c', by omega, by go_num, rfl, Lib.hid ⟨by simp [HH.out.1], .inr HN.out, HF.out⟩⟩
                   case measure => simp [intOf]; omega)
          · obtain rfl : k = m := by omega
            obtain ⟨hokF, hFl, hal⟩ := FIN.out F HH.out.2.1
            rw [HH.out.1] at hFl hal
            have HAL := Lib.hid hal
            have HOKF := Lib.hid hokF
            clear hal hokF
            go_wp2_with fail
            refine (bucketed_any r u _ _ _ F _ HH.out.2.2.1.sl RB.out UB.out (by omega) HOKF.out).mono ?_
            rintro e v8 ⟨ao8, c8, rfl, ho8, hb8⟩
            have hs8 := hb8.size
            have hc8 := ho8.sl.cap
            have hl8 := ho8.sl.le
            unfold maxLen at hc8
            have G8 := Lib.hid ho8
            have HBF := Lib.hid ((GB.out.trans (HH.out.2.2.2.mono (by omega))).trans (hb8.mono (by omega)))
            clear ho8 hb8
            go_wp2_with fail
            go_loopw [22] (fun i wr => ∃ (j : Nat), 1 ≤ j ∧ j ≤ 200 ∧ i = .int .i64 j ∧ wr = v8) (fun i _ => f - (intOf i).toNat)
            case atStart => exact ⟨1, by omega, by omega, rfl, rfl⟩
            case round =>
              obtain ⟨j, hj, hj2, rfl, rfl⟩ := hrel
              by_cases hlt : j < f
              · obtain ⟨q8, rfl, -, q8s, hcc8, -⟩ := G8.out.get (by omega)
                have y := hcc8 _ _ (passes_at r u F f j hlt)
                rw [HAL.out j hj hlt] at y
                clear hcc8
                go_wp2
                go_roundw
                case rel => exact ⟨j + 1, by omega, by omega, by go_num, trivial⟩
                case measure => simp [intOf]; omega
              · go_wp2
                exact hR.out _ _ ⟨rfl, HBF.out⟩
end Go.Proofs.Ytpfpjlhcmdpdkaa
