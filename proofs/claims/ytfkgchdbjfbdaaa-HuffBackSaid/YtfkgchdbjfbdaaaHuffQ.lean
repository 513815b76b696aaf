/-
  FEW BITS FOR WHAT COMES OFTEN, IN PLAIN LEAN: twice as often, together, equally often. No program in sight.
-/
import Derived.Test.YtfkgchdbjfbdaaaHuffP
namespace Go.Proofs.Ytfkgchdbjfbdaaa
set_option linter.unusedVariables false
namespace huff
theorem sumTo_zero : ∀ n, sumTo (fun _ => 0) n = 0
  | 0 => rfl
  | n + 1 => by unfold sumTo; rw [sumTo_zero n]
theorem sumTo_const (k : Nat) : ∀ n, sumTo (fun _ => k) n = n * k
  | 0 => by simp [sumTo]
  | n + 1 => by unfold sumTo; rw [sumTo_const k n, Nat.add_mul]; omega
theorem sumTo_if (g : Nat → Nat) (j a : Nat) : ∀ n, j < n → sumTo (fun i => if i = j then a else g i) n + g j = sumTo g n + a
  | n + 1, h => by
    unfold sumTo
    by_cases c : n = j
    · rw [if_pos c, c, sumTo_congr (g := g) (fun i hi => if_neg (by omega))]; omega
    · rw [if_neg c]
      have := sumTo_if g j a n (by omega)
      omega
theorem sumTo_eq {f g : Nat → Nat} : ∀ {n : Nat}, (∀ i, i < n → f i ≤ g i) → sumTo g n ≤ sumTo f n → ∀ i, i < n → f i = g i
  | n + 1, h, hs, i, hi => by
    unfold sumTo at hs
    have h1 := sumTo_le (f := f) (g := g) (n := n) (fun i hi => h i (by omega))
    have h2 := h n (by omega)
    by_cases c : i = n
    · rw [c]; omega
    · exact sumTo_eq (n := n) (fun i hi => h i (by omega)) (by omega) i (by omega)
theorem sup_pos {c : Nat → Nat} {N : Nat} (h : ∀ i, i < N → 0 < c i) : (sup c N).length = N := by
  have := sup_sum (c := c) (fun _ => 1) N
  rw [sumTo_congr (g := fun _ => 1) (fun i hi => if_neg (by have := h i hi; omega)), sumTo_const] at this
  have e : ∀ l : List Nat, (l.map fun _ => 1).sum = l.length := by
    intro l
    induction l with
    | nil => rfl
    | cons x l ih => rw [List.map_cons, List.sum_cons, ih, List.length_cons]; omega
  rw [e] at this; omega
/-- the lengths may be -/
theorem Good.kr {c own : Nat → Nat} {N : Nat} (g : Good c own N) {D : Nat} (hD : N ≤ D + 1) : sumTo (fun i => if c i = 0 then 0 else 2 ^ (D - own i)) N ≤ 2 ^ D := by
  rcases Nat.lt_or_ge (sup c N).length 2 with h | h
  · rw [← c_kr c own N D]
    match hs : sup c N, h with
    | [], _ => simp [huff.kr]
    | [k], _ =>
      simp only [List.map_cons, List.map_nil, huff.kr, Nat.add_zero]
      exact Nat.pow_le_pow_right (by decide) (by omega)
    | _ :: _ :: _, h => exact absurd h (by simp only [List.length_cons]; omega)
  · rw [g.full h D (by omega)]; exact Nat.le_refl _
theorem Good.le {c own : Nat → Nat} {N : Nat} (g : Good c own N) {i : Nat} (hi : i < N) (h0 : 0 < c i) : 1 ≤ own i ∧ own i ≤ N := by
  have := g.some i hi h0
  have := sup_len (c := c) (n := N)
  omega
/-- TWICE AS OFTEN COSTS TWICE AS MUCH -/
theorem twice_law {a o p : Nat → Nat} {N : Nat} (g : Good a o N) (h : Good (fun i => 2 * a i) p N) : sumTo (fun i => (2 * a i) * p i) N = 2 * sumTo (fun i => a i * o i) N := by
  have h1 := g.best p (N + 1) (fun i hi h0 => by have := h.le hi (show 0 < 2 * a i by omega); omega) (by
    have := h.kr (D := N + 1) (by omega)
    rw [sumTo_congr (g := fun i => if 2 * a i = 0 then 0 else 2 ^ (N + 1 - p i)) (fun i hi => by
      by_cases c : a i = 0
      · rw [if_pos c, if_pos (by omega)]
      · rw [if_neg c, if_neg (by omega)])]
    exact this)
  have h2 := h.best o (N + 1) (fun i hi h0 => by have := g.le hi (show 0 < a i by have h0 : 0 < 2 * a i := h0; omega); omega) (by
    have := g.kr (D := N + 1) (by omega)
    rw [sumTo_congr (g := fun i => if a i = 0 then 0 else 2 ^ (N + 1 - o i)) (fun i hi => by
      by_cases c : a i = 0
      · rw [if_pos c, if_pos (by omega)]
      · rw [if_neg c, if_neg (by omega)])]
    exact this)
  have e : ∀ f : Nat → Nat, sumTo (fun i => 2 * a i * f i) N = 2 * sumTo (fun i => a i * f i) N := fun f => by
    rw [← sumTo_mul]
    exact sumTo_congr fun i _ => by rw [Nat.mul_assoc]
  rw [e] at h2 ⊢
  rw [e] at h2
  omega
/-- WHAT COMES TOGETHER COSTS NO LESS -/
theorem both_law {a b o p q : Nat → Nat} {N : Nat} (g : Good a o N) (h : Good b p N) (k : Good (fun i => a i + b i) q N) : sumTo (fun i => a i * o i) N + sumTo (fun i => b i * p i) N ≤ sumTo (fun i => (a i + b i) * q i) N := by
  have hk := k.kr (D := N + 1) (by omega)
  have h1 := g.best q (N + 1) (fun i hi h0 => by have := k.le hi (show 0 < a i + b i by omega); omega) (by
    refine Nat.le_trans (sumTo_le fun i hi => ?_) hk
    by_cases c : a i = 0
    · rw [if_pos c]; exact Nat.zero_le _
    · rw [if_neg c, if_neg (by omega)]; exact Nat.le_refl _)
  have h2 := h.best q (N + 1) (fun i hi h0 => by have := k.le hi (show 0 < a i + b i by omega); omega) (by
    refine Nat.le_trans (sumTo_le fun i hi => ?_) hk
    by_cases c : b i = 0
    · rw [if_pos c]; exact Nat.zero_le _
    · rw [if_neg c, if_neg (by omega)]; exact Nat.le_refl _)
  have e : sumTo (fun i => (a i + b i) * q i) N = sumTo (fun i => a i * q i) N + sumTo (fun i => b i * q i) N := by
    rw [← sumTo_add]; exact sumTo_congr fun i _ => Nat.add_mul _ _ _
  omega
theorem pow_ge (k : Nat) : k + 1 ≤ 2 ^ k := Nat.lt_two_pow_self
theorem pow_gt : ∀ k : Nat, 2 ≤ k → k + 2 ≤ 2 ^ k
  | k + 1, h => by
    have := pow_ge k
    rw [Nat.pow_succ]; omega
/-- a length against the flat one -/
theorem flat_ge (D m x : Nat) (hm : m ≤ D) (hx : x ≤ D) : 2 ^ (D - m) * (m + 1) ≤ 2 ^ (D - x) + 2 ^ (D - m) * x ∧ (2 ^ (D - m) * (m + 1) = 2 ^ (D - x) + 2 ^ (D - m) * x → x ≤ m) := by
  have hp : 0 < 2 ^ (D - m) := Nat.pow_pos (by decide)
  have hq : 0 < 2 ^ (D - x) := Nat.pow_pos (by decide)
  rcases Nat.lt_or_ge m x with c | c
  · have := Nat.mul_le_mul_left (2 ^ (D - m)) (show m + 1 ≤ x from c)
    exact ⟨by omega, fun h => by omega⟩
  · obtain ⟨k, rfl⟩ : ∃ k, m = x + k := ⟨m - x, by omega⟩
    have e : 2 ^ (D - x) = 2 ^ (D - (x + k)) * 2 ^ k := by rw [← Nat.pow_add]; congr 1; omega
    have := Nat.mul_le_mul_left (2 ^ (D - (x + k))) (pow_ge k)
    rw [e]
    simp only [Nat.mul_add] at this ⊢
    exact ⟨by omega, fun _ => by omega⟩
/-- WHAT COMES EQUALLY OFTEN HAS EQUAL CODES -/
theorem even_law {own : Nat → Nat} {m C : Nat} (hC : 0 < C) (hm : 1 ≤ m) (g : Good (fun _ => C) own (2 ^ m)) : ∀ i, i < 2 ^ m → own i = m := by
  have hN2 : 2 ≤ 2 ^ m := by
    have := pow_ge m; omega
  have hlen := sup_pos (c := fun _ => C) (N := 2 ^ m) (fun _ _ => hC)
  have hbest := g.best (fun _ => m) m (fun _ _ _ => ⟨hm, Nat.le_refl _⟩) (by
    rw [sumTo_congr (g := fun _ => 1) (fun i _ => by rw [if_neg (by omega), Nat.sub_self]), sumTo_const, Nat.mul_one]; exact Nat.le_refl _)
  rw [sumTo_mul C own, sumTo_mul C (fun _ => m), sumTo_const] at hbest
  have hle := Nat.le_of_mul_le_mul_left hbest hC
  generalize hD : 2 ^ m + m = D at *
  have hfull := g.full (by omega) D (by omega)
  rw [sumTo_congr (g := fun i => 2 ^ (D - own i)) (fun i _ => if_neg (by omega))] at hfull
  have hx : ∀ i, i < 2 ^ m → own i ≤ D := fun i hi => by have := (g.le hi hC).2; omega
  have t1 : ∀ i, i < 2 ^ m → 2 ^ (D - m) * (m + 1) ≤ 2 ^ (D - own i) + 2 ^ (D - m) * own i := fun i hi => (flat_ge D m (own i) (by omega) (hx i hi)).1
  have e1 : sumTo (fun i => 2 ^ (D - own i) + 2 ^ (D - m) * own i) (2 ^ m) = 2 ^ D + 2 ^ (D - m) * sumTo own (2 ^ m) := by
    rw [sumTo_add, hfull, sumTo_mul]
  have e2 : 2 ^ D = 2 ^ (D - m) * 2 ^ m := by rw [← Nat.pow_add]; congr 1; omega
  have hs : sumTo (fun i => 2 ^ (D - own i) + 2 ^ (D - m) * own i) (2 ^ m) ≤ sumTo (fun _ => 2 ^ (D - m) * (m + 1)) (2 ^ m) := by
    rw [e1, sumTo_const, e2, ← Nat.mul_add]
    rw [Nat.mul_comm (2 ^ m) (2 ^ (D - m) * (m + 1)), Nat.mul_assoc]
    refine Nat.mul_le_mul_left _ ?_
    rw [Nat.mul_comm (m + 1), Nat.mul_add]; omega
  have heq := sumTo_eq t1 hs
  have hxm : ∀ i, i < 2 ^ m → own i ≤ m := fun i hi => (flat_ge D m (own i) (by omega) (hx i hi)).2 (heq i hi)
  refine sumTo_eq hxm ?_
  rw [sumTo_const]
  have hge := sumTo_le t1
  rw [e1, sumTo_const, e2, ← Nat.mul_add, Nat.mul_comm (2 ^ m) (2 ^ (D - m) * (m + 1)), Nat.mul_assoc] at hge
  have := Nat.le_of_mul_le_mul_left hge (Nat.pow_pos (by decide))
  rw [Nat.add_mul] at this
  rw [Nat.mul_comm]; omega
/-- ONE THAT COMES MORE OFTEN THAN ALL OTHERS TOGETHER HAS ONE BIT -/
theorem odd_law {own : Nat → Nat} {N C j : Nat} (hC : 0 < C) (hN : 2 ≤ N) (hj : j < N) (g : Good (fun i => if i = j then N * C else C) own N) : own j = 1 := by
  have hpos : ∀ i, i < N → 0 < (if i = j then N * C else C) := fun i _ => by
    split
    · exact Nat.mul_pos (by omega) hC
    · exact hC
  have hlen := sup_pos (c := fun i => if i = j then N * C else C) (N := N) hpos
  have hne : ∀ i, (if i = j then N * C else C) ≠ 0 := fun i => by
    split
    · exact Nat.ne_of_gt (Nat.mul_pos (by omega) hC)
    · omega
  have h1 := (g.le hj (hpos j hj)).1
  have hfull := g.full (by omega) N (Nat.le_succ _)
  rw [sumTo_congr (g := fun i => 2 ^ (N - own i)) (fun i _ => if_neg (hne i))] at hfull
  have hb := g.best (fun i => if i = j then 1 else own i + 1) (N + 1) (fun i hi h0 => by
    have := g.le hi (hpos i hi)
    by_cases c : i = j
    · rw [if_pos c]; omega
    · rw [if_neg c]; omega) (by
    rw [sumTo_congr (g := fun i => if i = j then 2 ^ N else 2 ^ (N - own i)) (fun i hi => by
      rw [if_neg (hne i)]
      by_cases c : i = j
      · rw [if_pos c, if_pos c]; rfl
      · rw [if_neg c, if_neg c]; congr 1; omega)]
    have := sumTo_if (fun i => 2 ^ (N - own i)) j (2 ^ N) N hj
    rw [hfull] at this
    have hp : 0 < 2 ^ (N - own j) := Nat.pow_pos (by decide)
    have e2 : 2 ^ (N + 1) = 2 ^ N * 2 := Nat.pow_succ ..
    have this' : sumTo (fun i => if i = j then 2 ^ N else 2 ^ (N - own i)) N + 2 ^ (N - own j) = 2 ^ N + 2 ^ N := this
    omega)
  have e1 : sumTo (fun i => (if i = j then N * C else C) * own i) N + C * own j = C * sumTo own N + N * C * own j := by
    have := sumTo_if (fun i => C * own i) j (N * C * own j) N hj
    rw [sumTo_mul] at this
    rw [← this]
    congr 1
    exact sumTo_congr fun i _ => by
      by_cases c : i = j
      · rw [if_pos c, if_pos c, c]
      · rw [if_neg c, if_neg c]
  have e2 : sumTo (fun i => (if i = j then N * C else C) * (if i = j then 1 else own i + 1)) N + C * (own j + 1) = C * (sumTo own N + N) + N * C := by
    have := sumTo_if (fun i => C * (own i + 1)) j (N * C) N hj
    rw [sumTo_mul, sumTo_add, sumTo_const, Nat.mul_one] at this
    rw [← this]
    congr 1
    exact sumTo_congr fun i _ => by
      by_cases c : i = j
      · rw [if_pos c, if_pos c, if_pos c, Nat.mul_one]
      · rw [if_neg c, if_neg c, if_neg c]
  rcases Nat.lt_or_ge (own j) 2 with c | c
  · omega
  · exfalso
    obtain ⟨x, hx⟩ : ∃ x, own j = x + 2 := ⟨own j - 2, by omega⟩
    rw [hx] at e1 e2
    obtain ⟨S, hS⟩ : ∃ S, sumTo own N = S := ⟨_, rfl⟩
    rw [hS] at e1 e2
    obtain ⟨A, hA⟩ : ∃ A, sumTo (fun i => (if i = j then N * C else C) * own i) N = A := ⟨_, rfl⟩
    rw [hA] at e1 hb
    have hb' : A ≤ sumTo (fun i => (if i = j then N * C else C) * (if i = j then 1 else own i + 1)) N := hb
    obtain ⟨B, hB⟩ : ∃ B, sumTo (fun i => (if i = j then N * C else C) * (if i = j then 1 else own i + 1)) N = B := ⟨_, rfl⟩
    rw [hB] at e2 hb'
    have hNC : C * 2 ≤ N * C := by rw [Nat.mul_comm N C]; exact Nat.mul_le_mul_left C hN
    have hNx : C * x ≤ N * C * x := Nat.mul_le_mul_right x (by omega)
    rw [Nat.mul_add] at e2 e1
    rw [Nat.mul_add] at e1
    rw [Nat.mul_add, Nat.mul_add] at e2
    rw [Nat.mul_comm C N] at e2
    omega
end huff
end Go.Proofs.Ytfkgchdbjfbdaaa
