/-
  PLAIN LAW of package lz: runs, the best one, tokens, and what they make. No program in sight.
-/
import Derived.Test.YtomibkfpeiceoaaInetP
namespace Go.Proofs.Ytomibkfpeiceoaa
set_option linter.unusedVariables false

namespace lz
structure Tok where
  byte : UInt8
  dist : Nat
  len : Nat
instance : Inhabited Tok := ⟨⟨0, 0, 0⟩⟩
abbrev K := UInt8 × UInt8 × UInt8
def g (b : List UInt8) (i : Nat) : UInt8 := b.getD i default
def key (b : List UInt8) (a : Nat) : K := (g b a, g b (a + 1), g b (a + 2))
def runF (b : List UInt8) : Nat → Nat → Nat → Nat
  | _, _, 0 => 0
  | f, a, k + 1 => if a < b.length ∧ g b f = g b a then runF b (f + 1) (a + 1) k + 1 else 0
def run (b : List UInt8) (f a : Nat) : Nat := runF b f a 200
def best (b : List UInt8) (a : Nat) : List Nat → Nat × Nat → Nat × Nat
  | [], t => t
  | p :: ps, t => if a - p ≤ 255 then best b a ps (if t.2 < run b p a then (a - p, run b p a) else t) else t
def posK (b : List UInt8) (k : K) (a : Nat) : List Nat := (List.range a).filter fun p => decide (p + 3 ≤ b.length ∧ key b p = k)
def bst (b : List UInt8) (a : Nat) : Nat × Nat := if a + 3 ≤ b.length then best b a (posK b (key b a) a).reverse (0, 0) else (0, 0)
def tok (b : List UInt8) (a : Nat) : Tok := if (bst b a).2 = 0 then ⟨g b a, 0, 0⟩ else ⟨0, (bst b a).1, (bst b a).2⟩
def wide (t : Tok) : Nat := max t.len 1
def pm (b : List UInt8) : Nat → Nat → List Tok
  | 0, _ => []
  | k + 1, a => if a < b.length then tok b a :: pm b k (a + wide (tok b a)) else []
def parse (b : List UInt8) : List Tok := pm b b.length 0

theorem runF_le (b : List UInt8) : ∀ (k f a : Nat), runF b f a k ≤ k
  | 0, _, _ => Nat.le_refl _
  | k + 1, f, a => by
    unfold runF
    split
    · have := runF_le b k (f + 1) (a + 1); omega
    · omega
theorem runF_get (b : List UInt8) : ∀ (k f a j : Nat), j < runF b f a k → a + j < b.length ∧ g b (f + j) = g b (a + j)
  | k + 1, f, a, j, h => by
    unfold runF at h
    split at h
    · rename_i hc
      cases j with
      | zero => exact hc
      | succ j =>
        have := runF_get b k (f + 1) (a + 1) j (by omega)
        rw [show f + (j + 1) = f + 1 + j by omega, show a + (j + 1) = a + 1 + j by omega]
        exact this
    · omega
/-- a run goes on as long as it may -/
theorem runF_ge (b : List UInt8) : ∀ (k f a m : Nat), m ≤ k → (∀ j, j < m → a + j < b.length ∧ g b (f + j) = g b (a + j)) → m ≤ runF b f a k
  | k, f, a, 0, _, _ => Nat.zero_le _
  | k + 1, f, a, m + 1, h, hj => by
    unfold runF
    have h0 : a < b.length ∧ g b f = g b a := by simpa using hj 0 (by omega)
    rw [if_pos h0]
    have := runF_ge b k (f + 1) (a + 1) m (by omega) fun j hjm => by
      have := hj (j + 1) (by omega)
      rw [show f + 1 + j = f + (j + 1) by omega, show a + 1 + j = a + (j + 1) by omega]
      exact this
    omega
theorem run_len (b : List UInt8) (f a : Nat) (h : 0 < run b f a) : a + run b f a ≤ b.length := by
  have := (runF_get b 200 f a (run b f a - 1) (by unfold run at *; omega)).1
  unfold run at *; omega
theorem best_cases (b : List UInt8) (a : Nat) : ∀ (ps : List Nat) (t : Nat × Nat), best b a ps t = t ∨ ∃ p ∈ ps, best b a ps t = (a - p, run b p a) ∧ a - p ≤ 255 ∧ 0 < run b p a
  | [], t => .inl rfl
  | p :: ps, t => by
    unfold best
    split
    · rename_i hd
      rcases best_cases b a ps (if t.2 < run b p a then (a - p, run b p a) else t) with h | ⟨q, hq, h1, h2, h3⟩
      · rw [h]
        split
        · exact .inr ⟨p, by simp, rfl, hd, by omega⟩
        · exact .inl rfl
      · exact .inr ⟨q, by simp [hq], h1, h2, h3⟩
    · exact .inl rfl
theorem best_ge (b : List UInt8) (a : Nat) : ∀ (ps : List Nat) (t : Nat × Nat), t.2 ≤ (best b a ps t).2
  | [], t => Nat.le_refl _
  | p :: ps, t => by
    unfold best
    split
    · by_cases c : t.2 < run b p a
      · rw [if_pos c]
        have := best_ge b a ps (a - p, run b p a)
        simp only at this; omega
      · rw [if_neg c]
        exact best_ge b a ps t
    · exact Nat.le_refl _
/-- the best is no worse than each that is near: the list falls -/
theorem best_max (b : List UInt8) (a : Nat) : ∀ (ps : List Nat) (t : Nat × Nat), ps.Pairwise (fun x y => y < x) → ∀ p ∈ ps, a - p ≤ 255 → run b p a ≤ (best b a ps t).2
  | q :: ps, t, hp, p, hm, hd => by
    obtain ⟨h1, h2⟩ := List.pairwise_cons.1 hp
    unfold best
    have hq : a - q ≤ 255 := by
      rcases List.mem_cons.1 hm with rfl | hm
      · exact hd
      · have := h1 p hm; omega
    rw [if_pos hq]
    rcases List.mem_cons.1 hm with rfl | hm
    · by_cases c : t.2 < run b p a
      · rw [if_pos c]
        exact best_ge b a ps (a - p, run b p a)
      · rw [if_neg c]
        have := best_ge b a ps t
        omega
    · exact best_max b a ps _ h2 p hm hd
theorem posK_mem {b : List UInt8} {k : K} {a p : Nat} : p ∈ posK b k a ↔ p < a ∧ p + 3 ≤ b.length ∧ key b p = k := by
  simp [posK]
theorem posK_succ (b : List UInt8) (k : K) (a : Nat) : posK b k (a + 1) = if a + 3 ≤ b.length ∧ key b a = k then posK b k a ++ [a] else posK b k a := by
  unfold posK
  rw [List.range_succ, List.filter_append]
  split
  · rename_i h; simp [h]
  · rename_i h; simp [h]
theorem posK_falls (b : List UInt8) (k : K) (a : Nat) : (posK b k a).reverse.Pairwise (fun x y => y < x) := by
  rw [List.pairwise_reverse]
  exact List.Pairwise.filter _ List.pairwise_lt_range
structure TokOk (b : List UInt8) (a : Nat) (t : Tok) : Prop where
  z : t.len = 0 → t = ⟨g b a, 0, 0⟩
  by0 : 0 < t.len → t.byte = 0
  d1 : 0 < t.len → 1 ≤ t.dist ∧ t.dist ≤ 255 ∧ t.dist ≤ a
  ln : 0 < t.len → 3 ≤ t.len ∧ t.len ≤ 200 ∧ a + t.len ≤ b.length
  eq : ∀ j, j < t.len → g b (a - t.dist + j) = g b (a + j)
theorem tok_ok (b : List UInt8) (a : Nat) : TokOk b a (tok b a) := by
  unfold tok
  by_cases h0 : (bst b a).2 = 0
  · rw [if_pos h0]
    exact ⟨fun _ => rfl, fun h => absurd h (by simp), fun h => absurd h (by simp), fun h => absurd h (by simp), fun j h => absurd h (by simp)⟩
  · rw [if_neg h0]
    unfold bst at h0 ⊢
    by_cases h3 : a + 3 ≤ b.length
    · rw [if_pos h3] at h0 ⊢
      rcases best_cases b a (posK b (key b a) a).reverse (0, 0) with h | ⟨p, hp, h1, h2, h4⟩
      · rw [h] at h0; exact absurd rfl h0
      · rw [h1]
        obtain ⟨p1, p2, p3⟩ := posK_mem.1 (List.mem_reverse.1 hp)
        have hr3 : 3 ≤ run b p a := runF_ge b 200 p a 3 (by omega) fun j hj => by
          refine ⟨by omega, ?_⟩
          unfold key at p3
          simp only [Prod.mk.injEq] at p3
          obtain ⟨k1, k2, k3⟩ := p3
          match j, hj with
          | 0, _ => exact k1
          | 1, _ => exact k2
          | 2, _ => exact k3
        have hl := run_len b p a h4
        have h200 := runF_le b 200 p a
        refine ⟨fun h => absurd h (by simp only; omega), fun _ => rfl, fun _ => ⟨by simp only; omega, by simp only; omega, by simp only; omega⟩, fun _ => ⟨hr3, h200, hl⟩, fun j hj => ?_⟩
        have := (runF_get b 200 p a j hj).2
        simp only
        rw [show a - (a - p) + j = p + j by omega]
        exact this
    · rw [if_neg h3] at h0; exact absurd rfl h0
theorem wide_pos (t : Tok) : 1 ≤ wide t := by unfold wide; omega
theorem tok_wide (b : List UInt8) (a : Nat) (h : a < b.length) : a + wide (tok b a) ≤ b.length := by
  have := (tok_ok b a).ln
  unfold wide
  by_cases h0 : 0 < (tok b a).len
  · have := this h0; omega
  · omega
/-- what tokens make -/
def ext (out : List UInt8) (d : Nat) : Nat → List UInt8
  | 0 => out
  | k + 1 => ext out d k ++ [g (ext out d k) ((ext out d k).length - d)]
def ex1 (out : List UInt8) (t : Tok) : List UInt8 := if t.len = 0 then out ++ [t.byte] else ext out t.dist t.len
def exs (out : List UInt8) (l : List Tok) : List UInt8 := l.foldl ex1 out
structure Valid (out : List UInt8) (t : Tok) : Prop where
  z : t.len = 0 → t.dist = 0
  by0 : 0 < t.len → t.byte = 0
  d1 : 0 < t.len → 1 ≤ t.dist ∧ t.dist ≤ 255 ∧ t.dist ≤ out.length
  ln : t.len ≤ 200
def okL (out : List UInt8) : List Tok → Prop
  | [] => True
  | t :: r => Valid out t ∧ okL (ex1 out t) r
theorem ext_len (out : List UInt8) (d : Nat) : ∀ k, (ext out d k).length = out.length + k
  | 0 => rfl
  | k + 1 => by show (ext out d k ++ [_]).length = _; rw [List.length_append, ext_len out d k]; rfl
theorem ex1_len (out : List UInt8) (t : Tok) : (ex1 out t).length = out.length + wide t := by
  unfold ex1 wide
  split
  · simp; omega
  · rw [ext_len]; omega
theorem exs_len_le : ∀ (l : List Tok) (out : List UInt8) (k : Nat), (exs out (l.take k)).length ≤ (exs out l).length
  | [], out, k => by simp
  | t :: r, out, 0 => by
    show out.length ≤ (exs (ex1 out t) r).length
    have h1 := exs_len_le r (ex1 out t) 0
    have h2 := ex1_len out t
    simp only [List.take_zero] at h1
    have : (exs (ex1 out t) []).length = (ex1 out t).length := rfl
    omega
  | t :: r, out, k + 1 => exs_len_le r (ex1 out t) k
theorem okL_take : ∀ (l : List Tok) (out : List UInt8) (k : Nat), okL out l → k < l.length → Valid (exs out (l.take k)) (l.getD k default)
  | t :: r, out, 0, h, _ => h.1
  | t :: r, out, k + 1, h, hk => by
    have := okL_take r (ex1 out t) k h.2 (by simpa using hk)
    simpa [exs] using this
theorem okL_app : ∀ (l m : List Tok) (out : List UInt8), okL out l → okL (exs out l) m → okL out (l ++ m)
  | [], m, out, _, h => h
  | t :: r, m, out, h, h' => ⟨h.1, okL_app r m (ex1 out t) h.2 h'⟩
theorem exs_snoc (l : List Tok) (t : Tok) (out : List UInt8) : exs out (l ++ [t]) = ex1 (exs out l) t := by simp [exs]
theorem exs_app (l m : List Tok) (out : List UInt8) : exs out (l ++ m) = exs (exs out l) m := by simp [exs]
theorem take_g (b : List UInt8) (a : Nat) (h : a < b.length) : b.take (a + 1) = b.take a ++ [g b a] := by
  unfold g
  rw [List.take_succ_eq_append_getElem h, List.getD_eq_getElem?_getD, List.getElem?_eq_getElem h]; rfl
theorem tok_makes (pre b : List UInt8) (a : Nat) (h : a < b.length) : Valid (pre ++ b.take a) (tok b a) ∧ ex1 (pre ++ b.take a) (tok b a) = pre ++ b.take (a + wide (tok b a)) := by
  obtain ⟨t1, t2, t3, t4, t5⟩ := tok_ok b a
  generalize tok b a = t at *
  have hl : (pre ++ b.take a).length = pre.length + a := by simp; omega
  by_cases h0 : t.len = 0
  · have ht := t1 h0
    subst ht
    refine ⟨⟨fun _ => rfl, fun h => absurd h (by simp), fun h => absurd h (by simp), by simp⟩, ?_⟩
    unfold ex1 wide
    simp only [if_true]
    rw [show max 0 1 = 1 from rfl, take_g b a h, List.append_assoc]
  · obtain ⟨d1, d2, d3⟩ := t3 (by omega)
    obtain ⟨l1, l2, l3⟩ := t4 (by omega)
    refine ⟨⟨fun h => absurd h h0, t2, fun _ => ⟨d1, d2, by omega⟩, l2⟩, ?_⟩
    unfold ex1 wide
    rw [if_neg h0, show max t.len 1 = t.len by omega]
    have key : ∀ j, j ≤ t.len → ext (pre ++ b.take a) t.dist j = pre ++ b.take (a + j) := by
      intro j
      induction j with
      | zero => intro _; rfl
      | succ j ih =>
        intro hj
        have ih := ih (by omega)
        show ext (pre ++ b.take a) t.dist j ++ [_] = _
        rw [ih]
        have hlen : (pre ++ b.take (a + j)).length = pre.length + (a + j) := by simp; omega
        have hg : g (pre ++ b.take (a + j)) ((pre ++ b.take (a + j)).length - t.dist) = g b (a + j) := by
          rw [hlen, ← t5 j (by omega)]
          unfold g
          rw [List.getD_eq_getElem?_getD, List.getD_eq_getElem?_getD, List.getElem?_append_right (by omega), List.getElem?_take, if_pos (by omega)]
          congr 2
          omega
        rw [hg, ← Nat.add_assoc, take_g b (a + j) (by omega), List.append_assoc]
    exact key t.len (Nat.le_refl _)
theorem pm_makes (pre b : List UInt8) : ∀ (k a : Nat), a ≤ b.length → b.length - a ≤ k → okL (pre ++ b.take a) (pm b k a) ∧ exs (pre ++ b.take a) (pm b k a) = pre ++ b
  | 0, a, h, hk => by
    have : a = b.length := by omega
    subst this
    simp [pm, okL, exs]
  | k + 1, a, h, hk => by
    unfold pm
    by_cases hlt : a < b.length
    · rw [if_pos hlt]
      obtain ⟨m1, m2⟩ := tok_makes pre b a hlt
      have hw := tok_wide b a hlt
      have hp := wide_pos (tok b a)
      obtain ⟨i1, i2⟩ := pm_makes pre b k (a + wide (tok b a)) hw (by omega)
      refine ⟨⟨m1, ?_⟩, ?_⟩
      · rw [m2]; exact i1
      · show exs (ex1 (pre ++ b.take a) (tok b a)) _ = _
        rw [m2]; exact i2
    · rw [if_neg hlt]
      have : a = b.length := by omega
      subst this
      simp [okL, exs]
theorem parse_makes (pre b : List UInt8) : okL pre (parse b) ∧ exs pre (parse b) = pre ++ b := by
  have := pm_makes pre b b.length 0 (Nat.zero_le _) (by omega)
  simpa [parse] using this
theorem pm_len (b : List UInt8) : ∀ k a, (pm b k a).length ≤ b.length - a
  | 0, a => by simp [pm]
  | k + 1, a => by
    unfold pm
    split
    · have := pm_len b k (a + wide (tok b a))
      have := wide_pos (tok b a)
      simp only [List.length_cons]; omega
    · simp
theorem parse_len (b : List UInt8) : (parse b).length ≤ b.length := by have := pm_len b b.length 0; unfold parse; omega
theorem pm_ok (b : List UInt8) : ∀ k a, ∀ t ∈ pm b k a, ∃ a', a ≤ a' ∧ a' < b.length ∧ t = tok b a'
  | k + 1, a, t, h => by
    unfold pm at h
    split at h
    · rcases List.mem_cons.1 h with rfl | h
      · exact ⟨a, Nat.le_refl _, by assumption, rfl⟩
      · obtain ⟨a', h1, h2, h3⟩ := pm_ok b k _ t h
        exact ⟨a', by omega, h2, h3⟩
    · simp at h
/-- enough fuel is enough -/
theorem pm_fuel (b : List UInt8) : ∀ k a, b.length - a ≤ k → pm b k a = pm b (b.length - a) a
  | 0, a, h => by rw [show b.length - a = 0 by omega]
  | k + 1, a, h => by
    by_cases hlt : a < b.length
    · have hp := wide_pos (tok b a)
      have e1 := pm_fuel b k (a + wide (tok b a)) (by omega)
      obtain ⟨m, hm⟩ : ∃ m, b.length - a = m + 1 := ⟨b.length - a - 1, by omega⟩
      rw [hm]
      unfold pm
      rw [if_pos hlt, if_pos hlt, e1]
      by_cases hk : k = m
      · subst hk; rw [e1]
      · rw [pm_fuel b m (a + wide (tok b a)) (by omega)]
    · have : b.length - a = 0 := by omega
      rw [this]; unfold pm; rw [if_neg hlt]
theorem pm_step (b : List UInt8) (a : Nat) (h : a < b.length) : pm b (b.length - a) a = tok b a :: pm b (b.length - (a + wide (tok b a))) (a + wide (tok b a)) := by
  obtain ⟨m, hm⟩ : ∃ m, b.length - a = m + 1 := ⟨b.length - a - 1, by omega⟩
  have hp := wide_pos (tok b a)
  rw [hm]
  show (if a < b.length then _ else _) = _
  rw [if_pos h, pm_fuel b m _ (by omega)]
end lz
end Go.Proofs.Ytomibkfpeiceoaa
