/-
  PLAIN LAWS of package lz: what is new, what comes again and again, what begins. No program in sight.
-/
import Derived.Test.YtomibkfpeiceoaaLzP
namespace Go.Proofs.Ytomibkfpeiceoaa
set_option linter.unusedVariables false

namespace lz
/-- what never came before is told byte by byte -/
theorem tok_fresh (b : List UInt8) (hd : ∀ i j, i < b.length → j < b.length → g b i = g b j → i = j) (a : Nat) (ha : a < b.length) : tok b a = ⟨g b a, 0, 0⟩ := by
  have hb : bst b a = (0, 0) := by
    unfold bst
    split
    · have : posK b (key b a) a = [] := by
        rw [List.eq_nil_iff_forall_not_mem]
        intro p hp
        obtain ⟨p1, p2, p3⟩ := posK_mem.1 hp
        unfold key at p3
        simp only [Prod.mk.injEq] at p3
        have := hd p a (by omega) ha p3.1
        omega
      rw [this]; rfl
    · rfl
  unfold tok
  rw [hb]; rfl
theorem pm_fresh (b : List UInt8) (hd : ∀ i j, i < b.length → j < b.length → g b i = g b j → i = j) : ∀ k a, b.length - a = k → pm b k a = (b.drop a).map fun x => ⟨x, 0, 0⟩
  | 0, a, h => by rw [List.drop_eq_nil_of_le (by omega)]; rfl
  | k + 1, a, h => by
    have ha : a < b.length := by omega
    have e := tok_fresh b hd a ha
    unfold pm
    rw [if_pos ha, e, show wide (⟨g b a, 0, 0⟩ : Tok) = 1 from rfl, pm_fresh b hd k (a + 1) (by omega), List.drop_eq_getElem_cons ha, List.map_cons]
    congr 2
    unfold g
    rw [List.getD_eq_getElem?_getD, List.getElem?_eq_getElem ha]; rfl
theorem parse_fresh (b : List UInt8) (hd : ∀ i j, i < b.length → j < b.length → g b i = g b j → i = j) : parse b = b.map fun x => ⟨x, 0, 0⟩ := by
  have := pm_fresh b hd b.length 0 (by omega)
  simpa [parse] using this
theorem odd_coprime : ∀ q, q < 128 → Nat.gcd 256 (1 + 2 * q) = 1 := by decide
theorem odd_inj (q s i j : Nat) (hq : q < 128) (hi : i < 256) (hj : j < 256) (h : (i * (1 + 2 * q) + s) % 256 = (j * (1 + 2 * q) + s) % 256) : i = j := by
  have key : ∀ i j, i < 256 → j ≤ i → (i * (1 + 2 * q) + s) % 256 = (j * (1 + 2 * q) + s) % 256 → i = j := by
    intro i j hi hle h
    have e : i * (1 + 2 * q) + s = (i - j) * (1 + 2 * q) + (j * (1 + 2 * q) + s) := by
      rw [← Nat.add_assoc, ← Nat.add_mul, show i - j + j = i by omega]
    rw [e] at h
    have hm : ((i - j) * (1 + 2 * q)) % 256 = 0 := by omega
    have hc : Nat.Coprime 256 (1 + 2 * q) := odd_coprime q hq
    have := hc.dvd_of_dvd_mul_right (Nat.dvd_of_mod_eq_zero hm)
    obtain ⟨c, hc⟩ := this
    omega
  rcases Nat.le_total j i with hle | hle
  · exact key i j hi hle h
  · exact (key j i hj hle h.symm).symm
/-- what comes again and again -/
theorem tok_again (b : List UInt8) (q a : Nat) (hq : 1 ≤ q ∧ q ≤ 255) (hp : ∀ i, i + q < b.length → g b (i + q) = g b i) (ha : q ≤ a) (h3 : a + 3 ≤ b.length) : wide (tok b a) = min 200 (b.length - a) := by
  have hper : ∀ j, a + j < b.length → g b (a - q + j) = g b (a + j) := fun j hj => by
    have := hp (a - q + j) (by omega)
    rw [show a - q + j + q = a + j by omega] at this
    exact this.symm
  have hmem : a - q ∈ posK b (key b a) a := posK_mem.2 ⟨by omega, by omega, by
    unfold key
    have h0 := hper 0 (by omega)
    have h1 := hper 1 (by omega)
    have h2 := hper 2 (by omega)
    simp only [Nat.add_zero] at h0
    rw [h0, h1, h2]⟩
  have hrun : min 200 (b.length - a) ≤ run b (a - q) a := runF_ge b 200 (a - q) a _ (by omega) fun j hj => ⟨by omega, hper j (by omega)⟩
  have hmax := best_max b a (posK b (key b a) a).reverse (0, 0) (posK_falls b _ a) (a - q) (List.mem_reverse.2 hmem) (by omega)
  have hb : bst b a = best b a (posK b (key b a) a).reverse (0, 0) := by unfold bst; rw [if_pos h3]
  rw [← hb] at hmax
  have hok := (tok_ok b a).ln
  have hlen : (tok b a).len = (bst b a).2 := by
    unfold tok
    rw [if_neg (by omega)]
  have := hok (by omega)
  unfold wide
  omega
def cnt (b : List UInt8) (a : Nat) : Nat := (pm b (b.length - a) a).length
theorem cnt_step (b : List UInt8) (a : Nat) (h : a < b.length) : cnt b a = 1 + cnt b (a + wide (tok b a)) := by
  unfold cnt
  rw [pm_step b a h, List.length_cons]; omega
theorem cnt_le (b : List UInt8) (a : Nat) : cnt b a ≤ b.length - a := pm_len b _ a
theorem cnt_again (b : List UInt8) (q : Nat) (hq : 1 ≤ q ∧ q ≤ 255) (hp : ∀ i, i + q < b.length → g b (i + q) = g b i) : ∀ R a, b.length - a ≤ R → q ≤ a → cnt b a ≤ (b.length - a) / 200 + 2
  | 0, a, hR, ha => by have := cnt_le b a; omega
  | R + 1, a, hR, ha => by
    by_cases h3 : a + 3 ≤ b.length
    · have hw := tok_again b q a hq hp ha h3
      rw [cnt_step b a (by omega), hw]
      by_cases h200 : b.length - a ≤ 200
      · have := cnt_le b (a + min 200 (b.length - a)); omega
      · have := cnt_again b q hq hp R (a + min 200 (b.length - a)) (by omega) (by omega)
        omega
    · have := cnt_le b a; omega
theorem cnt_begin (b : List UInt8) (q : Nat) (hq : 1 ≤ q ∧ q ≤ 255) (hp : ∀ i, i + q < b.length → g b (i + q) = g b i) : ∀ R a, q - a ≤ R → a ≤ q → q ≤ b.length → cnt b a ≤ (q - a) + (b.length - q) / 200 + 2
  | 0, a, hR, ha, hql => by
    have := cnt_again b q hq hp _ a (Nat.le_refl _) (by omega)
    have e : a = q := by omega
    subst e; omega
  | R + 1, a, hR, ha, hql => by
    by_cases haq : a = q
    · subst haq
      have := cnt_again b a hq hp _ a (Nat.le_refl _) (Nat.le_refl _)
      omega
    · have hpos := wide_pos (tok b a)
      rw [cnt_step b a (by omega)]
      by_cases h : a + wide (tok b a) ≤ q
      · have := cnt_begin b q hq hp R _ (by omega) h hql
        omega
      · have := cnt_again b q hq hp _ (a + wide (tok b a)) (Nat.le_refl _) (by omega)
        have h2 : (b.length - (a + wide (tok b a))) / 200 ≤ (b.length - q) / 200 := Nat.div_le_div_right (by omega)
        omega
/-- what begins -/
theorem g_take (x : List UInt8) (n i : Nat) (h : i < n) : g (x.take n) i = g x i := by
  unfold g
  rw [List.getD_eq_getElem?_getD, List.getD_eq_getElem?_getD, List.getElem?_take, if_pos h]
theorem runF_take (x : List UInt8) (n : Nat) (hn : n ≤ x.length) : ∀ (k f a : Nat), f ≤ a → runF x f a k ≤ n - a → runF (x.take n) f a k = runF x f a k
  | 0, _, _, _, _ => rfl
  | k + 1, f, a, hf, h => by
    have hl : (x.take n).length = n := by rw [List.length_take]; omega
    unfold runF at h ⊢
    rw [hl]
    by_cases c : a < x.length ∧ g x f = g x a
    · rw [if_pos c] at h ⊢
      have han : a < n := by omega
      rw [if_pos ⟨han, by rw [g_take x n f (by omega), g_take x n a han]; exact c.2⟩, runF_take x n hn k (f + 1) (a + 1) (by omega) (by omega)]
    · rw [if_neg c]
      rw [if_neg (fun h2 => c ⟨by omega, by have := h2.2; rw [g_take x n f (by omega), g_take x n a h2.1] at this; exact this⟩)]
theorem best_take (x : List UInt8) (n a : Nat) (hn : n ≤ x.length) : ∀ (ps : List Nat) (t : Nat × Nat), (∀ p ∈ ps, p ≤ a) → (∀ p ∈ ps, a - p ≤ 255 → run x p a ≤ n - a) → best (x.take n) a ps t = best x a ps t
  | [], t, _, _ => rfl
  | p :: ps, t, h1, h2 => by
    unfold best
    split
    · rename_i hd
      have e : run (x.take n) p a = run x p a := runF_take x n hn 200 p a (h1 p (by simp)) (h2 p (by simp) hd)
      rw [e]
      exact best_take x n a hn ps _ (fun q hq => h1 q (by simp [hq])) (fun q hq => h2 q (by simp [hq]))
    · rfl
theorem tok_take (x : List UInt8) (n a : Nat) (hn : n ≤ x.length) (ha : a < n) (hw : a + wide (tok x a) ≤ n) : tok (x.take n) a = tok x a := by
  have hl : (x.take n).length = n := by rw [List.length_take]; omega
  have hok := tok_ok x a
  by_cases h3 : a + 3 ≤ n
  · have hkey : key (x.take n) a = key x a := by
      unfold key
      rw [g_take x n a ha, g_take x n (a + 1) (by omega), g_take x n (a + 2) (by omega)]
    have hpos : posK (x.take n) (key x a) a = posK x (key x a) a := by
      unfold posK
      apply List.filter_congr
      intro p hp
      have hpa := List.mem_range.1 hp
      have hk : key (x.take n) p = key x p := by
        unfold key
        rw [g_take x n p (by omega), g_take x n (p + 1) (by omega), g_take x n (p + 2) (by omega)]
      rw [hk, hl]
      exact decide_eq_decide.2 ⟨fun ⟨h1, h2⟩ => ⟨by omega, h2⟩, fun ⟨h1, h2⟩ => ⟨by omega, h2⟩⟩
    have hbx : bst x a = best x a (posK x (key x a) a).reverse (0, 0) := by unfold bst; rw [if_pos (by omega)]
    have hL : (bst x a).2 ≤ n - a := by
      have : (bst x a).2 ≤ wide (tok x a) := by
        unfold tok wide
        split
        · rename_i h0; simp only; omega
        · simp only; omega
      omega
    have hb : bst (x.take n) a = bst x a := by
      rw [hbx]
      unfold bst
      rw [if_pos (by omega), hkey, hpos]
      refine best_take x n a hn _ _ (fun p hp => by have := (posK_mem.1 (List.mem_reverse.1 hp)).1; omega) fun p hp hd => ?_
      have := best_max x a _ (0, 0) (posK_falls x (key x a) a) p hp hd
      rw [← hbx] at this
      omega
    unfold tok
    rw [hb, g_take x n a ha]
  · have h0 : (tok x a).len = 0 := by
      apply Decidable.byContradiction
      intro hc
      have := hok.ln (by omega)
      unfold wide at hw
      omega
    rw [hok.z h0]
    have hb : bst (x.take n) a = (0, 0) := by unfold bst; rw [if_neg (by omega)]
    unfold tok
    rw [hb, g_take x n a ha]; rfl
theorem drop_get (l : List Tok) (i : Nat) (t : Tok) (r : List Tok) (h : l.drop i = t :: r) : i < l.length ∧ l.getD i default = t ∧ l.drop (i + 1) = r := by
  have hlt : i < l.length := by
    apply Decidable.byContradiction
    intro hc
    rw [List.drop_eq_nil_of_le (by omega)] at h
    cases h
  rw [List.drop_eq_getElem_cons hlt] at h
  simp only [List.cons.injEq] at h
  refine ⟨hlt, ?_, h.2⟩
  rw [List.getD_eq_getElem?_getD, List.getElem?_eq_getElem hlt]; exact h.1
end lz
end Go.Proofs.Ytomibkfpeiceoaa
