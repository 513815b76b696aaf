/-
  THE WALKS OF InetSwap, InetUpdated, InetTurned: each returns true. Conditions: none.
-/
import Derived.Test.YtnjdgkhdgeiepaaInetLaws
namespace Go.Proofs.Ytnjdgkhdgeiepaa
open Go.RowKit inet
set_option linter.unusedVariables false

/-- each two changed with each other -/
def swaps : List Int → List Int
  | a :: b :: t => b :: a :: swaps t
  | l => l
theorem swaps_append : ∀ (l m : List Int), l.length % 2 = 0 → swaps (l ++ m) = swaps l ++ swaps m
  | [], m, _ => rfl
  | [a], m, h => by simp at h
  | a :: b :: t, m, h => by
    have h' : t.length % 2 = 0 := by simp at h; omega
    simp [swaps, swaps_append t m h']
theorem swaps_mem : ∀ (l : List Int), Bytes l → Bytes (swaps l)
  | [], h => h
  | [a], h => h
  | a :: b :: t, h => by
    have ih := swaps_mem t (fun x hx => h x (by simp [hx]))
    intro x hx
    simp only [swaps, List.mem_cons] at hx
    rcases hx with rfl | rfl | hx
    · exact h _ (by simp)
    · exact h _ (by simp)
    · exact ih x hx
theorem swaps_len : ∀ (l : List Int), (swaps l).length = l.length
  | [] => rfl
  | [a] => rfl
  | a :: b :: t => by simp [swaps, swaps_len t]
theorem swaps_sum : ∀ (l : List Int), l.length % 2 = 0 → wsum false (swaps l) = wsum true l
  | [], _ => rfl
  | [a], h => by simp at h
  | a :: b :: t, h => by
    have h' : t.length % 2 = 0 := by simp at h; omega
    simp only [swaps, wsum, swaps_sum t h']; omega
theorem take_two (y : List Int) (k : Nat) (h : k + 1 < y.length) : y.take (k + 2) = y.take k ++ [y.getD k 0, y.getD (k + 1) 0] := by
  rw [take_get y (k + 1) h, take_get y k (by omega)]; simp
theorem swaps_take (y : List Int) (k : Nat) (h : 2 * k + 1 < y.length) : swaps (y.take (2 * k + 2)) = swaps (y.take (2 * k)) ++ [y.getD (2 * k + 1) 0, y.getD (2 * k) 0] := by
  rw [take_two y (2 * k) h, swaps_append _ _ (by rw [List.length_take]; omega)]; rfl
theorem swap_fold (y : List Int) (hy : Bytes y) (he : y.length % 2 = 0) (f : Int) (hf : ofold (wsum false y) = f) : ofold (wsum false (swaps y)) = f % 256 * 256 + f / 256 := by
  rw [swaps_sum y he]
  have h1 := wsum_bd y hy false
  have h2 := wsum_bd y hy true
  obtain ⟨h3, h4⟩ := wsum_true y hy
  generalize wsum false y = a at *
  generalize wsum true y = b at *
  unfold ofold at *
  by_cases h : a = 0
  · have := h3.1 h
    subst h; subst this; simp at hf ⊢; omega
  · have : b ≠ 0 := fun e => h (h3.2 e)
    rw [if_neg (by omega)] at hf ⊢
    omega

theorem inetSwap_walk (a0 : Option Addr) (len0 cap0 : Nat) (z0 : List Int) (w : World) (w0 : IsRow .u8 w a0 len0 cap0 z0) :
    Calls Try.prog 4 #[.slice a0 len0 cap0] w fun e w' => e = .returned (.bool true) ∧ Below w.heap.size w w' := by
  refine calls_hide fun R hR => ?_
  obtain ⟨hsl, hwf⟩ := w0.sl
  clear w0
  have hby := bytes_of hwf
  clear hwf
  generalize z0.take len0 = l at hsl hby
  have hl0 : l.length = len0 := by have := hsl.len; simpa using this
  go_enter Try.func4, Try.ntmps4
  go_wp2_with fail
  refine (octets_any _ _ _ l 600 _ hsl (by omega)).mono ?_
  rintro e w1 ⟨ao, c, rfl, hown, hb1⟩
  have hs1 := hb1.size
  have hby' : Bytes (l.take 600) := fun b hb => hby b (List.mem_of_mem_take hb)
  have hlen : (l.take 600).length = min len0 600 := by rw [List.length_take]; omega
  generalize l.take 600 = x at hown hby' hlen
  clear hsl hby hl0
  have hn : min len0 600 ≤ 600 := by omega
  generalize min len0 600 = n at hown hlen hn ⊢
  by_cases hp : n % 2 = 1
  case' pos =>
    have hpi : ((n : Int) % 2 == 1) = true := by simp; omega
    have OWN := Lib.hid hown
    clear hown
    go_wp2_with (at_builtin; go_loud (refine wpList_append_sl (by first | rfl | decide | (simp [Region.wanted, yielded]; done)) _ _ _ rfl _ _ _ w.heap.size elem_u8 ao n c _ rfl (OWN.out.alloc _) _ 1 1 (u8s [0]) rfl (Sl.ints .u8 _ _ [0] 1 rfl (by omega)) (by omega) (by unfold maxLen; omega) (by first | exact Nat.le_refl _ | (simp; done) | omega | (simp; omega)) ?_))
    intro ao2 c2 w2 hown2 hg2
    have hbe : Below w.heap.size w w2 := hg2.below (hb1.alloc hs1 _) (by simp; omega) (fun k hk => (OWN.out.blk_lt k hk).1)
    have hbx : Bytes (x ++ [0]) := by
      intro b hb; rcases List.mem_append.1 hb with h | h
      · exact hby' b h
      · simp at h; omega
    have hlx : (x ++ [0]).length = n + 1 := by simp [hlen]
    rw [show u8s x ++ u8s [0] = u8s (x ++ [0]) by simp [u8s]] at hown2
    clear OWN hpi hby' hlen
    generalize x ++ [0] = y at hown2 hbx hlx
    have hev : (n + 1) % 2 = 0 := by omega
    have hmm : n + 1 ≤ 601 := by omega
    generalize n + 1 = m at hown2 hlx hev hmm ⊢
  case' neg =>
    have hpi : ((n : Int) % 2 == 1) = false := by simp; omega
    have hbe := hb1
    have hev : n % 2 = 0 := by omega
    have hmm : n ≤ 601 := by omega
    obtain ⟨m, rfl⟩ : ∃ m, m = n := ⟨_, rfl⟩
    obtain ⟨y, rfl⟩ : ∃ y, y = x := ⟨_, rfl⟩
    obtain ⟨ao2, rfl⟩ : ∃ y, y = ao := ⟨_, rfl⟩
    obtain ⟨c2, rfl⟩ : ∃ y, y = c := ⟨_, rfl⟩
    obtain ⟨w2, rfl⟩ : ∃ y, y = w1 := ⟨_, rfl⟩
    have hbx := hby'
    have hlx := hlen
    have hown2 := hown
    clear hby' hlen hown
  all_goals
    have hs2 := hbe.size
    have H := Lib.hid hown2
    have hle := hown2.sl.le
    have HB := Lib.hid hbx
    have HL := Lib.hid hlx
    clear hown2 hbx hlx
    go_wp2_with fail
    go_loopw [4, 5] (fun v i wr => ∃ k : Nat, 2 * k ≤ m ∧ i = .int .i64 ((2 * k : Nat) : Int) ∧ (∃ bo d, v = .slice bo (2 * k) d ∧ Hid (Own wr w2.heap.size 5 1 bo (2 * k) d (u8s (swaps (y.take (2 * k)))))) ∧ Below w2.heap.size w2 wr) (fun _ i _ => m - (intOf i).toNat)
    case atStart => exact ⟨0, by omega, rfl, ⟨none, 0, rfl, Own.nil _ _ _ _⟩, Below.refl _ _⟩
    case round =>
      obtain ⟨k, hk, rfl, ⟨bo, d, rfl, hO⟩, hbr⟩ := hrel
      by_cases hlt : 2 * k < m
      · have hsr := hbr.size
        obtain ⟨g, rfl, hgb, hgl, hc, hf⟩ := (H.out.below hbr).get (by omega)
        have hc0 := hc (2 * k) (.int .u8 (y.getD (2 * k) 0)) (by have := HL.out; simp [u8s, this, hlt])
        have hc1 := hc (2 * k + 1) (.int .u8 (y.getD (2 * k + 1) 0)) (by have := HL.out; simp [u8s]; rw [List.getElem?_eq_getElem (by omega)]; simp)
        clear hc hf
        generalize hq0 : y.getD (2 * k) 0 = p at hc0
        generalize hq1 : y.getD (2 * k + 1) 0 = q at hc1
        have HQ0 := Lib.hid hq0
        have HQ1 := Lib.hid hq1
        clear hq0 hq1
        go_wp2
        have B1 := Lib.hid (show (2 * k + 2) * 1 ≤ 140737488355328 by omega)
        have B2 := Lib.hid (show 2 * k + 2 ≤ maxLen by unfold maxLen; omega)
        have B3 := Lib.hid (show ∀ o, w2.heap.size ≤ (wr.alloc o).drew.heap.size from fun o => by simp; omega)
        have e1 : IntKind.i64.wrap (2 * (k : Int) + 1) = 2 * (k : Int) + 1 := IntWalk.i64_in _ (by omega)
        have e2 : (2 * (k : Int) + 1).toNat = 2 * k + 1 := by omega
        have e3 : (2 * (k : Int)).toNat = 2 * k := by omega
        have e4 : 0 ≤ 2 * (k : Int) + 1 := by omega
        have e5 : 2 * (k : Int) + 1 < (m : Int) := by omega
        have e6 : 0 ≤ 2 * (k : Int) := by omega
        have e7 : 2 * (k : Int) < (m : Int) := by omega
        have HS := Lib.hid (swaps_take y k (by rw [HL.out]; omega))
        rw [HQ0.out, HQ1.out] at HS
        clear HQ0 HQ1
        go_region_law (refine step_append_sl rfl (.tmp 22) (.tmp 32) _ rfl _ _ _ w2.heap.size elem_u8 bo (2 * k) d _ rfl (hO.out.alloc _).drew _ 2 2 (u8s [q, p]) rfl (Sl.ints .u8 _ _ [q, p] 2 rfl (by omega)).drew B1.out B2.out (B3.out _) ?_; intro ao' c' w' h1 h2)
        all_goals
          have hb' : Below w2.heap.size w2 w' := h2.below (hbr.alloc hsr _).drew (B3.out _) (fun k hk => (hO.out.blk_lt k hk).1)
          rw [← u8s_append, ← HS.out] at h1
          have H1 := Lib.hid h1
          clear h1 h2 B1 B2 B3 e1 e2 e3 e4 e5 e6 e7
          go_wp2
          go_roundw
          case rel => exact ⟨k + 1, by omega, by go_num, ⟨ao', c', rfl, H1⟩, hb'⟩
          case measure => simp [intOf]; omega
      · obtain ⟨rfl⟩ : 2 * k = m := by omega
        have hsr := hbr.size
        have hF := Lib.hid (swap_fold y HB.out (by rw [HL.out]; omega) _ rfl)
        have HO := hO.out
        rw [List.take_of_length_le (by rw [HL.out]; omega)] at HO
        have H2 := Lib.hid HO
        have hbs := swaps_mem y HB.out
        obtain ⟨hf1, hf2⟩ := ofold_bd _ (wsum_bd y HB.out false).1
        clear HO hO
        go_wp2_with fail
        refine (foldB_any _ _ _ y _ (H.out.below hbr).sl HB.out (by omega)).mono ?_
        rintro e w' ⟨rfl, rfl⟩
        generalize ofold (wsum false y) = f at hF hf1 hf2
        go_wp2_with fail
        refine (sure_any _).mono ?_
        rintro e w3 ⟨rfl, h3⟩
        have hs3 := h3.size
        go_wp2_with fail
        refine (foldB_any _ _ _ (swaps y) _ (H2.out.below h3).sl hbs (by omega)).mono ?_
        rintro e w' ⟨rfl, rfl⟩
        rw [hF.out]
        clear hbs
        go_wp2
        exact hR.out _ _ ⟨rfl, (hbe.trans (hbr.mono hbe.size)).trans (h3.mono (by omega))⟩
end Go.Proofs.Ytnjdgkhdgeiepaa
