/-
  THE WALK OF InetUpdated: it returns true. Conditions: none.
-/
import Derived.Test.YtnjdgkhdgeiepaaInetLaws
namespace Go.Proofs.Ytnjdgkhdgeiepaa
open Go.RowKit inet
set_option linter.unusedVariables false

theorem u8s_set (l : List Int) (i : Nat) (x : Int) : (u8s l).set i (.int .u8 x) = u8s (l.set i x) := by simp [u8s, List.map_set]

/-- the sum where the number at place p is another one -/
theorem wsum_set (l : List Int) (p : Nat) (hp : 2 * p + 1 < l.length) (a b : Int) :
    wsum false ((l.set (2 * p) a).set (2 * p + 1) b) = wsum false l - (256 * l.getD (2 * p) 0 + l.getD (2 * p + 1) 0) + (256 * a + b) := by
  induction p generalizing l with
  | zero =>
    match l, hp with
    | x :: y :: t, _ => simp [wsum]; omega
  | succ p ih =>
    match l, hp with
    | x :: y :: t, hp =>
      have h := ih t (by simp at hp; omega)
      have e1 : 2 * (p + 1) = 2 * p + 1 + 1 := by omega
      have e2 : 2 * (p + 1) + 1 = 2 * p + 1 + 1 + 1 := by omega
      rw [e1, show 2 * p + 1 + 1 + 1 = (2 * p + 1) + 1 + 1 from rfl]
      simp only [List.set_cons_succ, wsum, List.getD_cons_succ] at h ⊢
      omega

theorem shl_or (x y : Int) (hx : 0 ≤ x ∧ x < 256) (hy : 0 ≤ y ∧ y < 256) : bits .or .i64 (x * 256) y = 256 * x + y := by
  rw [bits_join .i64 63 (by decide) (fun n h0 h1 => IntWalk.i64_in n (by omega)) 8 (x * 256) y (by omega) (by omega) (by omega) (by omega) (by omega) (by omega)]
  omega

theorem bytes_set {l : List Int} (h : Bytes l) (i : Nat) (x : Int) (hx : 0 ≤ x ∧ x < 256) : Bytes (l.set i x) := by
  intro b hb
  rcases List.mem_or_eq_of_mem_set hb with h1 | rfl
  · exact h b h1
  · exact hx

theorem updated (l : List Int) (hl : Bytes l) (p : Nat) (hp : 2 * p + 1 < l.length) (v was : Int) (hv : 0 ≤ v ∧ v < 65536) (hw : 256 * l.getD (2 * p) 0 + l.getD (2 * p + 1) 0 = was) (u f : Int)
    (hu : 65535 - ofold (65535 - (65535 - ofold (wsum false l)) + 65535 - was + v) = u) (hf : ofold (wsum false ((l.set (2 * p) (v / 256)).set (2 * p + 1) (v % 256))) = f) : u = 65535 - f ∨ (¬ u = 65535 - f ∧ f = 0) := by
  rw [wsum_set l p hp, hw] at hf
  have h1 := wsum_bd l hl false
  have h2 := wsum_bd _ (bytes_set (bytes_set hl (2 * p) (v / 256) (by omega)) (2 * p + 1) (v % 256) (by omega)) false
  rw [wsum_set l p hp, hw] at h2
  have h3 := hl.get (2 * p) (by omega)
  have h4 := hl.get (2 * p + 1) hp
  generalize wsum false l = s at *
  unfold ofold at *
  by_cases c1 : s ≤ 0
  · rw [if_pos c1] at hu
    by_cases c2 : s - was + (256 * (v / 256) + v % 256) ≤ 0
    · rw [if_pos c2] at hf; omega
    · rw [if_neg c2] at hf; rw [if_neg (by omega)] at hu; omega
  · rw [if_neg c1] at hu
    by_cases c2 : s - was + (256 * (v / 256) + v % 256) ≤ 0
    · rw [if_pos c2] at hf; omega
    · rw [if_neg c2] at hf; rw [if_neg (by omega)] at hu; omega

theorem inetUpdated_walk (a0 : Option Addr) (len0 cap0 : Nat) (z0 : List Int) (a1 : Int) (a2 : Int) (w : World) (w0 : IsRow .u8 w a0 len0 cap0 z0) (w1 : (Lit.int .i64 a1).wf = true) (w2 : (Lit.int .i64 a2).wf = true) :
    Calls Try.prog 10 #[.slice a0 len0 cap0, .int .i64 a1, .int .i64 a2] w fun e w' => e = .returned (.bool true) ∧ Below w.heap.size w w' := by
  refine calls_hide fun R hR => ?_
  obtain ⟨hsl, hwf⟩ := w0.sl
  clear w0 w1 w2
  have hby := bytes_of hwf
  clear hwf
  generalize z0.take len0 = l at hsl hby
  have hl0 : l.length = len0 := by have := hsl.len; simpa using this
  go_enter Try.func10, Try.ntmps10
  go_wp2_with fail
  refine (octets_any _ _ _ l 600 _ hsl (by omega)).mono ?_
  rintro e w1 ⟨ao, c, rfl, hown, hb1⟩
  have hs1 := hb1.size
  have hby' : Bytes (l.take 600) := fun b hb => hby b (List.mem_of_mem_take hb)
  have hlen : (l.take 600).length = min len0 600 := by rw [List.length_take]; omega
  generalize l.take 600 = x at hown hby' hlen
  clear hsl hby hl0
  have hn : min len0 600 ≤ 600 := by omega
  generalize min len0 600 = n at hown hlen hn ⊢
  have OWN := Lib.hid hown
  clear hown
  go_wp2_with (at_builtin; go_loud (refine wpList_append_sl (by first | rfl | decide | (simp [Region.wanted, yielded]; done)) _ _ _ rfl _ _ _ w.heap.size elem_u8 ao n c _ rfl (OWN.out.alloc _) _ 2 2 (u8s [1, 2]) rfl (Sl.ints .u8 _ _ [1, 2] 2 rfl (by omega)) (by omega) (by unfold maxLen; omega) (by first | exact Nat.le_refl _ | (simp; done) | omega | (simp; omega)) ?_))
  intro ao2 c2 w2 hown2 hg2
  have hbe : Below w.heap.size w w2 := hg2.below (hb1.alloc hs1 _) (by simp; omega) (fun k hk => (OWN.out.blk_lt k hk).1)
  have hbx : Bytes (x ++ [1, 2]) := by
    intro b hb; rcases List.mem_append.1 hb with h | h
    · exact hby' b h
    · simp at h; omega
  have hlx : (x ++ [1, 2]).length = n + 2 := by simp [hlen]
  rw [show u8s x ++ u8s [1, 2] = u8s (x ++ [1, 2]) by simp [u8s]] at hown2
  clear OWN hby' hlen
  generalize x ++ [1, 2] = y at hown2 hbx hlx
  have hm2 : n + 2 ≤ 602 ∧ 2 ≤ n + 2 := by omega
  generalize n + 2 = m at hown2 hlx hm2 ⊢
  obtain ⟨hm1, hm2⟩ := hm2
  have hs2 := hbe.size
  obtain ⟨g, rfl, hgb, hgl, hc, hf⟩ := hown2.get (by omega)
  have H := Lib.hid hown2
  have HB := Lib.hid hbx
  have HL := Lib.hid hlx
  have HC := Lib.hid hc
  clear hown2 hbx hlx hc hf
  go_wp2_with fail
  refine (picked_any _ _ _ (by omega) (by omega)).mono ?_
  rintro e w' ⟨rfl, rfl⟩
  have hp0 : 0 ≤ a1 % ((m : Int) / 2) := Int.emod_nonneg _ (by omega)
  have hp1 : a1 % ((m : Int) / 2) < (m : Int) / 2 := Int.emod_lt_of_pos _ (by omega)
  obtain ⟨p, hp⟩ := Int.eq_ofNat_of_zero_le hp0
  rw [hp] at hp1 ⊢
  have hpm : 2 * p + 1 < m := by omega
  clear hp0 hp1 hp
  go_wp2_with fail
  refine (picked_any _ _ _ (by omega) (by omega)).mono ?_
  rintro e w' ⟨rfl, rfl⟩
  have hv : 0 ≤ a2 % 65536 ∧ a2 % 65536 < 65536 := by omega
  generalize a2 % 65536 = v at hv
  obtain ⟨hv1, hv2⟩ := hv
  go_wp2_with (at_builtin; go_loud (refine wpList_append_sl (by first | rfl | decide | (simp [Region.wanted, yielded]; done)) _ _ _ rfl _ _ _ w2.heap.size elem_u8 none 0 0 [] rfl (Own.nil _ _ _ _) _ m _ _ rfl H.out.sl (by omega) (by unfold maxLen; omega) (by first | exact Nat.le_refl _ | (simp; done) | omega | (simp; omega)) ?_))
  intro ao3 c3 w3 hown3 hg3
  have hb3 : Below w2.heap.size w2 w3 := hg3.below (Below.refl _ _) (Nat.le_refl _) (by simp [blk])
  have hs3 := hb3.size
  obtain ⟨g3, rfl, hgb3, hgl3, hc3, hf3⟩ := hown3.get (by omega)
  have hce := hc3 (p * 2) (.int .u8 (y.getD (p * 2) 0)) (by have := HL.out; simp [u8s]; rw [List.getElem?_eq_getElem (by omega)]; simp)
  have hco := hc3 (p * 2 + 1) (.int .u8 (y.getD (p * 2 + 1) 0)) (by have := HL.out; simp [u8s]; rw [List.getElem?_eq_getElem (by omega)]; simp)
  have hfe := hf3 (p * 2)
  have hfo := hf3 (p * 2 + 1)
  have HO := Lib.hid hown3
  clear hown3 hc3 hf3
  go_wp2
  have hb4 : Below w2.heap.size w2 ((w3.setCell ⟨g3, p * 2, none⟩ (.int .u8 (v / 256))).setCell ⟨g3, p * 2 + 1, none⟩ (.int .u8 (v % 256))) := (hb3.setCell (by simpa using hgb3) _).setCell (by simpa using hgb3) _
  have hy4 := (HO.out.store (p * 2) (.int .u8 (v / 256)) rfl).store (p * 2 + 1) (.int .u8 (v % 256)) rfl
  rw [u8s_set, u8s_set] at hy4
  generalize (w3.setCell ⟨g3, p * 2, none⟩ (.int .u8 (v / 256))).setCell ⟨g3, p * 2 + 1, none⟩ (.int .u8 (v % 256)) = w4 at hb4 hy4 ⊢
  have hs4 := hb4.size
  have hbz := bytes_set (bytes_set HB.out (p * 2) (v / 256) (by omega)) (p * 2 + 1) (v % 256) (by omega)
  have hbe4 := hbe.trans (hb4.mono hs2)
  have HX4 := Lib.hid (H.out.below hb4)
  have HY4 := Lib.hid hy4
  clear HO hy4 hce hco hfe hfo hb3 hs3 hg3 hgb3 hgl3
  obtain ⟨g', eg, hgb4, hgl4, hc4, hf4⟩ := HX4.out.get (by omega)
  obtain rfl : g = g' := by simpa using eg
  have hp2 : p * 2 = 2 * p := by omega
  have hx0 := hc4 (p * 2) (.int .u8 (y.getD (p * 2) 0)) (by have := HL.out; simp [u8s]; rw [List.getElem?_eq_getElem (by omega)]; simp)
  have hx1 := hc4 (p * 2 + 1) (.int .u8 (y.getD (p * 2 + 1) 0)) (by have := HL.out; simp [u8s]; rw [List.getElem?_eq_getElem (by omega)]; simp)
  obtain ⟨hq1, hq2⟩ := HB.out.get (p * 2) (by rw [HL.out]; omega)
  obtain ⟨hq3, hq4⟩ := HB.out.get (p * 2 + 1) (by rw [HL.out]; omega)
  have hup := updated y HB.out p (by rw [HL.out]; omega) v _ ⟨hv1, hv2⟩ rfl _ _ rfl rfl
  rw [← hp2] at hup
  obtain ⟨hw1, hw2⟩ := ofold_bd _ (wsum_bd y HB.out false).1
  obtain ⟨hw3, hw4⟩ := ofold_bd _ (wsum_bd _ hbz false).1
  have HBZ := Lib.hid hbz
  clear hbz hc4 hf4 hp2
  generalize y.getD (p * 2) 0 = b0 at hx0 hq1 hq2 hup
  generalize y.getD (p * 2 + 1) 0 = b1 at hx1 hq3 hq4 hup
  have hlz : ((y.set (p * 2) (v / 256)).set (p * 2 + 1) (v % 256)).length = m := by rw [List.length_set, List.length_set]; exact HL.out
  have HLZ := Lib.hid hlz
  clear hlz
  generalize (y.set (p * 2) (v / 256)).set (p * 2 + 1) (v % 256) = z at HY4 HBZ hup hw3 hw4 HLZ
  have hv2' : v ≤ 65535 := by omega
  have hor := shl_or b0 b1 ⟨hq1, hq2⟩ ⟨hq3, hq4⟩
  have hwas : 0 ≤ 256 * b0 + b1 ∧ 256 * b0 + b1 ≤ 65535 := by omega
  have cx0 := fun d os => cell_regrown hx0 d os
  have cx1 := fun d os => cell_regrown hx1 d os
  have e1 : IntKind.i64.wrap ((p : Int) * 2 + 1) = (p : Int) * 2 + 1 := IntWalk.i64_in _ (by omega)
  have e2 : ((p : Int) * 2 + 1).toNat = p * 2 + 1 := by omega
  have e3 : ((p : Int) * 2).toNat = p * 2 := by omega
  have e4 : 0 ≤ (p : Int) * 2 + 1 := by omega
  have e5 : (p : Int) * 2 + 1 < (m : Int) := by omega
  have e6 : 0 ≤ (p : Int) * 2 := by omega
  have e7 : (p : Int) * 2 < (m : Int) := by omega
  have e8 : IntKind.i64.wrap (b0 * 256) = b0 * 256 := IntWalk.i64_in _ (by omega)
  have e9 : IntKind.i64.wrap b0 = b0 := IntWalk.i64_in _ (by omega)
  have e10 : IntKind.i64.wrap b1 = b1 := IntWalk.i64_in _ (by omega)
  generalize hwasv : 256 * b0 + b1 = was at hup hor hwas
  clear hwasv
  obtain ⟨hwas1, hwas2⟩ := hwas
  have hsum : ∀ W, Below w4.heap.size w4 W → Calls Try.prog 17 #[.slice (some ⟨g, 0, none⟩) m c2] W fun e w' => e = .returned (.int .i64 (65535 - ofold (wsum false y))) ∧ W = w' :=
    fun W hW => sum_any _ _ _ y _ (HX4.out.sl.below hW) HB.out (by omega)
  have HSUM := Lib.hid hsum
  clear hsum
  generalize ofold (wsum false y) = s at hup hw1 hw2 HSUM
  refine wp_region_quiet_below (by kernel_rfl) (by kernel_rfl) ?_
  repeat (quiet_step (first | (go_at_call 17; exact quietS (HSUM.out _ (below_regrown _ _ _))) | (go_at_call 23; exact quietB (update_any _ _ _ _ ⟨by omega, by omega⟩ ⟨hwas1, hwas2⟩ ⟨hv1, hv2'⟩))))
  refine wpQuiet_nil ?_
  intro _ hw'
  obtain ⟨⟨dq, osq⟩, hw''⟩ := hw'
  subst hw''
  have h5 := below_regrown w4 dq osq
  generalize Go.Sort.grow (redrawn w4 dq) osq = w5 at h5 ⊢
  have hs5 := h5.size
  clear e1 e2 e3 e4 e5 e6 e7 e8 e9 e10 cx0 cx1 hor
  generalize 65535 - ofold (65535 - (65535 - s) + 65535 - was + v) = u at hup
  go_wp2_with fail
  refine (sure_any _).mono ?_
  rintro e w6 ⟨rfl, h6⟩
  have hs6 := h6.size
  go_wp2_with fail
  refine (sum_any _ _ _ z _ ((HY4.out.sl.below h5).below h6) HBZ.out (by omega)).mono ?_
  rintro e w' ⟨rfl, rfl⟩
  generalize hfz : ofold (wsum false z) = f at hup hw3 hw4
  have HFZ := Lib.hid hfz
  clear hfz
  have hfin := (hbe4.trans (h5.mono (by omega))).trans (h6.mono (by omega))
  rcases hup with hup | ⟨hup, hf0⟩
  · subst hup
    go_wp2
    exact hR.out _ _ ⟨rfl, hfin⟩
  · subst hf0
    have hfu : (u == 65535) = false := by simpa using hup
    go_wp2_with fail
    refine (foldB_any _ _ _ z _ ((HY4.out.sl.below h5).below h6) HBZ.out (by omega)).mono ?_
    rintro e w' ⟨rfl, rfl⟩
    rw [HFZ.out]
    go_wp2
    exact hR.out _ _ ⟨rfl, hfin⟩
end Go.Proofs.Ytnjdgkhdgeiepaa
