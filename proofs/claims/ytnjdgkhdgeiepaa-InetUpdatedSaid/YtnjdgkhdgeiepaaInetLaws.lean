/-
  THE WALKS OF InetSealed, InetParts: each returns true. Conditions: none.
-/
import Derived.Test.YtnjdgkhdgeiepaaInet
namespace Go.Proofs.Ytnjdgkhdgeiepaa
open Go.RowKit inet
set_option linter.unusedVariables false

theorem bytes_of {l : List Int} (h : ∀ z ∈ l, (Lit.int .u8 z).wf = true) : Bytes l := by
  intro z hz
  have := h z hz
  simp [Lit.wf, IntKind.min, IntKind.max, IntKind.signed, IntKind.bits] at this; omega

theorem u8s_append (l m : List Int) : u8s (l ++ m) = u8s l ++ u8s m := by simp [u8s]

theorem sealed (l : List Int) (s : Int) (hl : Bytes l) (he : l.length % 2 = 0) (hs : 65535 - ofold (wsum false l) = s) : ofold (wsum false (l ++ [s / 256, s % 256])) = 65535 := by
  obtain ⟨h1, h2⟩ := wsum_bd l hl false
  rw [wsum_append, if_neg (by omega)]
  simp only [wsum]
  generalize wsum false l = n at *
  unfold ofold at *
  split at hs <;> (rw [if_neg (by omega)]; omega)

theorem inetSealed_walk (a0 : Option Addr) (len0 cap0 : Nat) (z0 : List Int) (w : World) (w0 : IsRow .u8 w a0 len0 cap0 z0) :
    Calls Try.prog 5 #[.slice a0 len0 cap0] w fun e w' => e = .returned (.bool true) ∧ Below w.heap.size w w' := by
  refine calls_hide fun R hR => ?_
  obtain ⟨hsl, hwf⟩ := w0.sl
  clear w0
  have hby := bytes_of hwf
  clear hwf
  generalize z0.take len0 = l at hsl hby
  have hl0 : l.length = len0 := by have := hsl.len; simpa using this
  go_enter Try.func5, Try.ntmps5
  go_wp2_with fail
  refine (octets_any _ _ _ l 600 _ hsl (by omega)).mono ?_
  rintro e w1 ⟨ao, c, rfl, hown, hb1⟩
  have hs1 := hb1.size
  have hby' : Bytes (l.take 600) := fun b hb => hby b (List.mem_of_mem_take hb)
  have hlen : (l.take 600).length = min len0 600 := by rw [List.length_take]; omega
  generalize l.take 600 = x at hown hby' hlen
  clear hsl hby hl0
  have hn : min len0 600 ≤ 600 := by omega
  generalize min len0 600 = n at hown hlen hn ⊢
  by_cases hp : n % 2 = 1
  case' pos =>
    have hpi : ((n : Int) % 2 == 1) = true := by simp; omega
    have OWN := Lib.hid hown
    clear hown
    go_wp2_with (at_builtin; go_loud (refine wpList_append_sl (by first | rfl | decide | (simp [Region.wanted, yielded]; done)) _ _ _ rfl _ _ _ w.heap.size elem_u8 ao n c _ rfl (OWN.out.alloc _) _ 1 1 (u8s [0]) rfl (Sl.ints .u8 _ _ [0] 1 rfl (by omega)) (by omega) (by unfold maxLen; omega) (by first | exact Nat.le_refl _ | (simp; done) | omega | (simp; omega)) ?_))
    intro ao2 c2 w2 hown2 hg2
    have hbe : Below w.heap.size w w2 := hg2.below (hb1.alloc hs1 _) (by simp; omega) (fun k hk => (OWN.out.blk_lt k hk).1)
    have hbx : Bytes (x ++ [0]) := by
      intro b hb; rcases List.mem_append.1 hb with h | h
      · exact hby' b h
      · simp at h; omega
    have hlx : (x ++ [0]).length = n + 1 := by simp [hlen]
    rw [show u8s x ++ u8s [0] = u8s (x ++ [0]) by simp [u8s]] at hown2
    clear OWN hpi hby' hlen
    generalize x ++ [0] = y at hown2 hbx hlx
    have hev : (n + 1) % 2 = 0 := by omega
    have hmm : n + 1 ≤ 601 := by omega
    generalize n + 1 = m at hown2 hlx hev hmm ⊢
  case' neg =>
    have hpi : ((n : Int) % 2 == 1) = false := by simp; omega
    have hbe := hb1
    have hev : n % 2 = 0 := by omega
    have hmm : n ≤ 601 := by omega
    obtain ⟨m, rfl⟩ : ∃ m, m = n := ⟨_, rfl⟩
    obtain ⟨y, rfl⟩ : ∃ y, y = x := ⟨_, rfl⟩
    obtain ⟨ao2, rfl⟩ : ∃ y, y = ao := ⟨_, rfl⟩
    obtain ⟨c2, rfl⟩ : ∃ y, y = c := ⟨_, rfl⟩
    obtain ⟨w2, rfl⟩ : ∃ y, y = w1 := ⟨_, rfl⟩
    have hbx := hby'
    have hlx := hlen
    have hown2 := hown
    clear hby' hlen hown
  all_goals
    have hs2 := hbe.size
    have H := Lib.hid hown2
    have hle := hown2.sl.le
    clear hown2
    go_wp2_with fail
    refine (sum_any _ _ _ y _ H.out.sl hbx (by omega)).mono ?_
    rintro e w' ⟨rfl, rfl⟩
    have hsx := Lib.hid (sealed y _ hbx (by rw [hlx]; exact hev) rfl)
    obtain ⟨hf1, hf2⟩ := ofold_bd _ (wsum_bd y hbx false).1
    generalize ofold (wsum false y) = f at hsx hf1 hf2
    obtain ⟨s, hs⟩ : ∃ s, s = 65535 - f := ⟨_, rfl⟩
    have hs3 : 0 ≤ s := by omega
    have hs4 : s ≤ 65535 := by omega
    rw [← hs] at hsx ⊢
    clear hs hf1 hf2 f
    go_wp2_with fail
    refine (sure_any _).mono ?_
    rintro e w3 ⟨rfl, h3⟩
    have hs3 := h3.size
    go_wp2_with (at_builtin; go_loud (refine wpList_append_sl (by first | rfl | decide | (simp [Region.wanted, yielded]; done)) _ _ _ rfl _ _ _ w.heap.size elem_u8 _ m _ _ rfl ((H.out.below h3).alloc _) _ 2 2 (u8s [s / 256, s % 256]) rfl (Sl.ints .u8 _ _ [s / 256, s % 256] 2 rfl (by omega)) (by omega) (by unfold maxLen; omega) (by first | exact Nat.le_refl _ | (simp; done) | omega | (simp; omega)) ?_))
    intro ao4 c4 w4 hown4 hg4
    have hb4 : Below w.heap.size w w4 := hg4.below ((hbe.trans (h3.mono hs2)).alloc (by omega) _) (by simp; omega) (fun k hk => (H.out.blk_lt k hk).1)
    rw [← u8s_append] at hown4
    have H4 := Lib.hid hown4
    clear hown4 H
    have hbz : Bytes (y ++ [s / 256, s % 256]) := by
      intro b hb; rcases List.mem_append.1 hb with h | h
      · exact hbx b h
      · simp at h; omega
    go_wp2_with fail
    refine (foldB_any _ _ _ (y ++ [s / 256, s % 256]) _ H4.out.sl hbz (by omega)).mono ?_
    rintro e w' ⟨rfl, rfl⟩
    rw [hsx.out]
    clear hbz hbx
    go_wp2
    exact hR.out _ _ ⟨rfl, hb4⟩

theorem wsum_true (l : List Int) (hl : Bytes l) : (wsum false l = 0 ↔ wsum true l = 0) ∧ (wsum false l - 256 * wsum true l) % 65535 = 0 := by
  have key : ∀ o : Bool, (wsum o l - 256 * wsum (!o) l) % 65535 = 0 ∧ (wsum o l = 0 → wsum (!o) l = 0) := by
    induction l with
    | nil => intro o; cases o <;> simp [wsum]
    | cons a t ih =>
      have ha := hl a (by simp)
      have ht : Bytes t := fun b hb => hl b (by simp [hb])
      have h0 := wsum_bd t ht
      have h1 := ih ht false
      have h2 := ih ht true
      have h3 := h0 false
      have h4 := h0 true
      intro o
      cases o
      · simp only [wsum, Bool.not_false, Bool.not_true] at h1 h2 ⊢
        exact ⟨by omega, fun h => by have := h2.2 (by omega); omega⟩
      · simp only [wsum, Bool.not_false, Bool.not_true] at h1 h2 ⊢
        exact ⟨by omega, fun h => by have := h1.2 (by omega); omega⟩
  exact ⟨⟨(key false).2, (key true).2⟩, (key false).1⟩

theorem parts (x y : List Int) (hx : Bytes x) (hy : Bytes y) (odd : Bool) (ho : odd = decide (x.length % 2 = 1)) :
    ofold (ofold (wsum false x) + (if odd then ofold (wsum false y) % 256 * 256 + ofold (wsum false y) / 256 else ofold (wsum false y))) = ofold (wsum false (x ++ y)) := by
  rw [wsum_append]
  have h1 := wsum_bd x hx false
  have h2 := wsum_bd y hy false
  have h3 := wsum_bd y hy true
  obtain ⟨h4, h5⟩ := wsum_true y hy
  by_cases h : x.length % 2 = 1
  · have : odd = true := by rw [ho]; simp [h]
    subst this
    simp only [if_true, if_pos h, Bool.not_false]
    generalize wsum false x = a at *
    generalize wsum false y = b at *
    generalize wsum true y = d at *
    unfold ofold
    by_cases hb : b = 0
    · have := h4.1 hb
      subst hb; subst this
      simp
      split <;> omega
    · have : d ≠ 0 := fun e => hb (h4.2 e)
      rw [if_neg (show ¬ b ≤ 0 by omega), if_neg (show ¬ a + d ≤ 0 by omega)]
      by_cases ha : a ≤ 0
      · rw [if_pos ha, if_neg (by omega)]; omega
      · rw [if_neg ha, if_neg (by omega)]; omega
  · have : odd = false := by rw [ho]; simp [h]
    subst this
    simp only [Bool.false_eq_true, if_false, if_neg h]
    generalize wsum false x = a at *
    generalize wsum false y = b at *
    unfold ofold
    by_cases ha : a ≤ 0
    · rw [if_pos ha]
      by_cases hb : b ≤ 0
      · rw [if_pos hb]; simp; omega
      · rw [if_neg hb, if_neg (by omega), if_neg (by omega)]; omega
    · rw [if_neg ha]
      by_cases hb : b ≤ 0
      · rw [if_pos hb, if_neg (by omega), if_neg (by omega)]; omega
      · rw [if_neg hb, if_neg (by omega), if_neg (by omega)]; omega

theorem inetParts_walk (a0 : Option Addr) (len0 cap0 : Nat) (z0 : List Int) (a1 : Option Addr) (len1 cap1 : Nat) (z1 : List Int) (w : World) (w0 : IsRow .u8 w a0 len0 cap0 z0) (w1 : IsRow .u8 w a1 len1 cap1 z1) :
    Calls Try.prog 12 #[.slice a0 len0 cap0, .slice a1 len1 cap1] w fun e w' => e = .returned (.bool true) ∧ Below w.heap.size w w' := by
  refine calls_hide fun R hR => ?_
  obtain ⟨hsl, hwf⟩ := w0.sl
  obtain ⟨hsl1, hwf1⟩ := w1.sl
  clear w0 w1
  have hby := bytes_of hwf
  have hby1 := bytes_of hwf1
  clear hwf hwf1
  generalize z0.take len0 = l at hsl hby
  generalize z1.take len1 = l1 at hsl1 hby1
  have hl0 : l.length = len0 := by have := hsl.len; simpa using this
  have hl1 : l1.length = len1 := by have := hsl1.len; simpa using this
  go_enter Try.func12, Try.ntmps12
  go_wp2_with fail
  refine (octets_any _ _ _ l 600 _ hsl (by omega)).mono ?_
  rintro e v1 ⟨ao, c, rfl, hown, hb1⟩
  have hs1 := hb1.size
  have hbx : Bytes (l.take 600) := fun b hb => hby b (List.mem_of_mem_take hb)
  have hlx : (l.take 600).length = min len0 600 := by rw [List.length_take]; omega
  have hn : min len0 600 ≤ 600 := by omega
  generalize l.take 600 = x at hown hbx hlx
  generalize min len0 600 = n at hown hlx hn ⊢
  go_wp2_with fail
  refine (octets_any _ _ _ l1 600 _ (hsl1.below hb1) (by omega)).mono ?_
  rintro e v2 ⟨bo, d, rfl, hown1, hb2⟩
  have hs2 := hb2.size
  have hby' : Bytes (l1.take 600) := fun b hb => hby1 b (List.mem_of_mem_take hb)
  have hly : (l1.take 600).length = min len1 600 := by rw [List.length_take]; omega
  have hm : min len1 600 ≤ 600 := by omega
  generalize l1.take 600 = y at hown1 hby' hly
  generalize min len1 600 = m at hown1 hly hm ⊢
  have HX := Lib.hid ((hown.below hb2).sl)
  have HY := Lib.hid hown1.sl
  have hbb := hb1.trans (hb2.mono hs1)
  clear hown hown1 hsl hsl1 hby hby1 hl0 hl1 hb1 hb2
  go_wp2_with fail
  refine (foldB_any _ _ _ x _ HX.out hbx (by omega)).mono ?_
  rintro e w' ⟨rfl, rfl⟩
  go_wp2_with fail
  refine (foldB_any _ _ _ y _ HY.out hby' (by omega)).mono ?_
  rintro e w' ⟨rfl, rfl⟩
  have hodd : ((n : Int) % 2 == 1) = decide (x.length % 2 = 1) := by rw [hlx, Bool.eq_iff_iff]; simp; omega
  have P := Lib.hid (parts x y hbx hby' _ hodd)
  clear hodd
  obtain ⟨hf1, hf2⟩ := ofold_bd _ (wsum_bd x hbx false).1
  obtain ⟨hf3, hf4⟩ := ofold_bd _ (wsum_bd y hby' false).1
  generalize ofold (wsum false x) = fx at hf1 hf2 P
  generalize ofold (wsum false y) = fy at hf3 hf4 P
  go_wp2_with fail
  refine (join_any _ _ _ _ ⟨hf1, hf2⟩ ⟨hf3, hf4⟩).mono ?_
  rintro e v3 ⟨rfl, h3⟩
  rw [P.out]
  have hs3 := h3.size
  go_wp2_with fail
  refine (sure_any _).mono ?_
  rintro e v4 ⟨rfl, h4⟩
  have hs4 := h4.size
  have h34 := h3.trans (h4.mono hs3)
  have hbc := hbb.trans (h34.mono (by omega))
  go_wp2_with (at_builtin; go_loud (refine wpList_append_sl (by first | rfl | decide | (simp [Region.wanted, yielded]; done)) _ _ _ rfl _ _ _ w.heap.size elem_u8 none 0 0 [] rfl (Own.nil _ _ _ _) _ n c _ rfl (HX.out.below h34) (by omega) (by unfold maxLen; omega) (by first | exact Nat.le_refl _ | (simp; done) | omega | (simp; omega)) ?_))
  intro ao5 c5 v5 hown5 hg5
  have h5 : Below v4.heap.size v4 v5 := hg5.below (Below.refl _ _) (Nat.le_refl _) (by simp [blk])
  have hs5 := h5.size
  have hbd := hbc.trans (h5.mono (by omega))
  have H5 := Lib.hid hown5
  clear hown5
  go_wp2_with (at_builtin; go_loud (refine wpList_append_sl (by first | rfl | decide | (simp [Region.wanted, yielded]; done)) _ _ _ rfl _ _ _ w.heap.size elem_u8 _ _ _ _ rfl H5.out _ m d _ rfl ((HY.out.below h34).below h5) (by omega) (by unfold maxLen; omega) (by first | exact Nat.le_refl _ | (simp; done) | omega | (simp; omega)) ?_))
  intro ao6 c6 v6 hown6 hg6
  have hbe : Below w.heap.size w v6 := hg6.below hbd (by omega) (fun k hk => (H5.out.blk_lt k hk).1)
  have hz : u8s x ++ u8s y = u8s (x ++ y) := by simp [u8s]
  rw [hz] at hown6
  have H6 := Lib.hid hown6
  clear hown6 hz
  have hbz : Bytes (x ++ y) := by
    intro b hb; rcases List.mem_append.1 hb with h | h
    · exact hbx b h
    · exact hby' b h
  go_wp2_with fail
  refine (foldB_any _ _ _ (x ++ y) _ H6.out.sl hbz (by omega)).mono ?_
  rintro e w' ⟨rfl, rfl⟩
  clear hbz hbx hby'
  go_wp2
  exact hR.out _ _ ⟨rfl, hbe⟩
end Go.Proofs.Ytnjdgkhdgeiepaa
