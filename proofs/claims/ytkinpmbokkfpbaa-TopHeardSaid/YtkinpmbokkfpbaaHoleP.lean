/-
  PLAIN LAW of package hole: ranges beyond a gap, merged; what is known of a place. No program in sight.
-/
import Derived.Test.YtkinpmbokkfpbaaCom3
namespace Go.Proofs.Ytkinpmbokkfpbaa
set_option linter.unusedVariables false

namespace hole
abbrev R := Int × Int
def chain : Int → List R → Prop
  | _, [] => True
  | low, r :: t => low < r.1 ∧ r.1 < r.2 ∧ chain r.2 t
def last : Int → List R → Int
  | low, [] => low
  | _, r :: t => last r.2 t
theorem last_app : ∀ (l m : List R) (low : Int), last low (l ++ m) = last (last low l) m
  | [], m, low => rfl
  | r :: t, m, low => last_app t m r.2
theorem chain_app : ∀ (l m : List R) (low : Int), chain low (l ++ m) ↔ chain low l ∧ chain (last low l) m
  | [], m, low => by simp [chain, last]
  | r :: t, m, low => by
    show (low < r.1 ∧ r.1 < r.2 ∧ chain r.2 (t ++ m)) ↔ (low < r.1 ∧ r.1 < r.2 ∧ chain r.2 t) ∧ chain (last r.2 t) m
    rw [chain_app t m r.2]
    exact ⟨fun ⟨a, b, c, d⟩ => ⟨⟨a, b, c⟩, d⟩, fun ⟨⟨a, b, c⟩, d⟩ => ⟨a, b, c, d⟩⟩
theorem chain_le : ∀ (l : List R) (low : Int), chain low l → low ≤ last low l
  | [], low, _ => Int.le_refl _
  | r :: t, low, h => by have := chain_le t r.2 h.2.2; show low ≤ last r.2 t; have := h.1; have := h.2.1; omega
theorem chain_mem : ∀ (l : List R) (low : Int), chain low l → ∀ x ∈ l, low < x.1 ∧ x.1 < x.2 ∧ x.2 ≤ last low l
  | r :: t, low, h, x, hx => by
    have hle := chain_le t r.2 h.2.2
    rcases List.mem_cons.1 hx with rfl | hx
    · exact ⟨h.1, h.2.1, hle⟩
    · obtain ⟨a, b, c⟩ := chain_mem t r.2 h.2.2 x hx
      have := h.1; have := h.2.1
      exact ⟨by omega, b, c⟩
theorem chain_low {l : List R} {low low' : Int} (h : chain low l) (h' : ∀ x ∈ l, low' < x.1) : chain low' l := by
  cases l with
  | nil => exact trivial
  | cons r t => exact ⟨h' r (by simp), h.2.1, h.2.2⟩
theorem last_low {l : List R} {low low' : Int} (h : l ≠ []) : last low l = last low' l := by
  cases l with
  | nil => exact absurd rfl h
  | cons r t => rfl
def inn (l : List R) (n : Int) : Prop := ∃ r ∈ l, r.1 ≤ n ∧ n < r.2
theorem inn_nil (n : Int) : ¬ inn [] n := fun ⟨r, h, _⟩ => by simp at h
theorem inn_app (l m : List R) (n : Int) : inn (l ++ m) n ↔ inn l n ∨ inn m n := by
  constructor
  · rintro ⟨r, h, k⟩
    rcases List.mem_append.1 h with h | h
    · exact .inl ⟨r, h, k⟩
    · exact .inr ⟨r, h, k⟩
  · rintro (⟨r, h, k⟩ | ⟨r, h, k⟩)
    · exact ⟨r, List.mem_append_left _ h, k⟩
    · exact ⟨r, List.mem_append_right _ h, k⟩
theorem inn_one (r : R) (n : Int) : inn [r] n ↔ r.1 ≤ n ∧ n < r.2 := by
  constructor
  · rintro ⟨q, h, k⟩; simp at h; subst h; exact k
  · intro k; exact ⟨r, by simp, k⟩
theorem inn_cons (r : R) (l : List R) (n : Int) : inn (r :: l) n ↔ (r.1 ≤ n ∧ n < r.2) ∨ inn l n := by
  rw [show r :: l = [r] ++ l from rfl, inn_app, inn_one]
def knows (d : Int) (l : List R) (n : Int) : Prop := n < d ∨ inn l n
structure May (d : Int) (l : List R) : Prop where
  d0 : 0 ≤ d
  ch : chain d l
  hi : last d l ≤ 1048576
  len : l.length ≤ 16
theorem inn_lt {l : List R} {low n : Int} (h : chain low l) (hn : inn l n) : low < n ∧ n < last low l := by
  obtain ⟨r, hr, h1, h2⟩ := hn
  obtain ⟨a, b, c⟩ := chain_mem l low h r hr
  omega

/-- two that know the same are the same -/
theorem inn_eq : ∀ (l m : List R) (a b : Int), chain a l → chain b m → (∀ n, inn l n ↔ inn m n) → l = m
  | [], [], _, _, _, _, _ => rfl
  | [], q :: u, a, b, _, hm, h => absurd ((h q.1).2 ⟨q, by simp, Int.le_refl _, hm.2.1⟩) (inn_nil _)
  | r :: t, [], a, b, hl, _, h => absurd ((h r.1).1 ⟨r, by simp, Int.le_refl _, hl.2.1⟩) (inn_nil _)
  | r :: t, q :: u, a, b, hl, hm, h => by
    have lt : ∀ n, inn t n → r.2 < n := fun n hn => (inn_lt hl.2.2 hn).1
    have lu : ∀ n, inn u n → q.2 < n := fun n hn => (inn_lt hm.2.2 hn).1
    have r12 := hl.2.1
    have q12 := hm.2.1
    have e1 : q.1 ≤ r.1 := by
      rcases (inn_cons q u r.1).1 ((h r.1).1 ((inn_cons r t r.1).2 (.inl ⟨Int.le_refl _, r12⟩))) with ⟨k, _⟩ | k
      · exact k
      · have := lu _ k; omega
    have e2 : r.1 ≤ q.1 := by
      rcases (inn_cons r t q.1).1 ((h q.1).2 ((inn_cons q u q.1).2 (.inl ⟨Int.le_refl _, q12⟩))) with ⟨k, _⟩ | k
      · exact k
      · have := lt _ k; omega
    have e3 : r.2 ≤ q.2 := by
      apply Decidable.byContradiction
      intro hc
      rcases (inn_cons q u q.2).1 ((h q.2).1 ((inn_cons r t q.2).2 (.inl ⟨by omega, by omega⟩))) with ⟨_, k⟩ | k
      · omega
      · have := lu _ k; omega
    have e4 : q.2 ≤ r.2 := by
      apply Decidable.byContradiction
      intro hc
      rcases (inn_cons r t r.2).1 ((h r.2).2 ((inn_cons q u r.2).2 (.inl ⟨by omega, by omega⟩))) with ⟨_, k⟩ | k
      · omega
      · have := lt _ k; omega
    have e : r = q := Prod.ext (by omega) (by omega)
    subst e
    congr 1
    refine inn_eq t u r.2 r.2 hl.2.2 hm.2.2 fun n => ⟨fun hn => ?_, fun hn => ?_⟩
    · have hgt := lt n hn
      rcases (inn_cons r u n).1 ((h n).1 ((inn_cons r t n).2 (.inr hn))) with ⟨_, k⟩ | k
      · omega
      · exact k
    · have hgt := lu n hn
      rcases (inn_cons r t n).1 ((h n).2 ((inn_cons r u n).2 (.inr hn))) with ⟨_, k⟩ | k
      · omega
      · exact k
theorem knows_d {d : Int} {l : List R} (h : chain d l) : ¬ knows d l d := fun k => by
  rcases k with k | k
  · omega
  · have := (inn_lt h k).1; omega
theorem knows_eq {d e : Int} {l m : List R} (hl : chain d l) (hm : chain e m) (h : ∀ n, knows d l n ↔ knows e m n) : d = e ∧ l = m := by
  have e1 : d = e := by
    apply Decidable.byContradiction
    intro hne
    rcases Int.lt_or_gt_of_ne hne with k | k
    · exact knows_d hl ((h d).2 (.inl k))
    · exact knows_d hm ((h e).1 (.inl k))
  subst e1
  refine ⟨rfl, inn_eq l m d d hl hm fun n => ⟨fun hn => ?_, fun hn => ?_⟩⟩
  · have := (inn_lt hl hn).1
    exact ((h n).1 (.inr hn)).resolve_left (by omega)
  · have := (inn_lt hm hn).1
    exact ((h n).2 (.inr hn)).resolve_left (by omega)

/-- one range is looked at: it stands ahead, behind, or touches -/
def step (s : List R × R × List R) (x : R) : List R × R × List R :=
  if x.2 < s.2.1.1 then (s.1 ++ [x], s.2.1, s.2.2) else if s.2.1.2 < x.1 then (s.1, s.2.1, s.2.2 ++ [x]) else (s.1, (min s.2.1.1 x.1, max s.2.1.2 x.2), s.2.2)
def merge (r : R) (l : List R) : List R × R × List R := l.foldl step ([], r, [])
structure Inv (d : Int) (r : R) (P : List R) (s : List R × R × List R) : Prop where
  i1 : ∀ n, (inn s.1 n ∨ (s.2.1.1 ≤ n ∧ n < s.2.1.2) ∨ inn s.2.2 n) ↔ inn P n ∨ (r.1 ≤ n ∧ n < r.2)
  i2 : chain d s.1
  i3 : s.1 = [] ∨ last d s.1 < s.2.1.1
  i3' : last d s.1 ≤ last d P
  i4 : chain s.2.1.2 s.2.2
  i5 : s.2.2 ≠ [] → last s.2.1.2 s.2.2 ≤ last d P ∧ s.2.1.2 < last d P
  i6 : s.2.1.1 < s.2.1.2
  i7 : ∀ b ∈ s.2.2, d < b.1
  i8 : s.1.length + s.2.2.length ≤ P.length
  i9 : s.2.1.2 ≤ max r.2 (last d P)
  i10 : (∃ x ∈ P, ¬ x.2 < r.1 ∧ ¬ r.2 < x.1) → s.1.length + s.2.2.length + 1 ≤ P.length
  i11 : s.2.1.1 ≤ r.1 ∧ r.2 ≤ s.2.1.2
theorem Inv.step {d : Int} {r : R} {P : List R} {s : List R × R × List R} {x : R} (h : Inv d r P s) (h1 : last d P < x.1) (h2 : x.1 < x.2) (hd : chain d P) : Inv d r (P ++ [x]) (step s x) := by
  obtain ⟨A, q, B⟩ := s
  obtain ⟨i1, i2, i3, i3', i4, i5, i6, i7, i8, i9, i10, i11⟩ := h
  simp only at i1 i2 i3 i3' i4 i5 i6 i7 i8 i9 i10 i11
  have hl : last d (P ++ [x]) = x.2 := by rw [last_app]; rfl
  have hdl := chain_le P d hd
  unfold hole.step
  simp only
  by_cases c1 : x.2 < q.1
  · rw [if_pos c1]
    refine ⟨fun n => ?_, ?_, ?_, ?_, i4, ?_, i6, i7, ?_, ?_, ?_, i11⟩
    · simp only [inn_app, inn_one]
      have := i1 n
      constructor
      · rintro ((k | k) | k)
        · rcases this.1 (.inl k) with k | k
          · exact .inl (.inl k)
          · exact .inr k
        · exact .inl (.inr k)
        · rcases this.1 (.inr k) with k | k
          · exact .inl (.inl k)
          · exact .inr k
      · rintro ((k | k) | k)
        · rcases this.2 (.inl k) with k | k
          · exact .inl (.inl k)
          · exact .inr k
        · exact .inl (.inr k)
        · rcases this.2 (.inr k) with k | k
          · exact .inl (.inl k)
          · exact .inr k
    · simp only; rw [chain_app]; exact ⟨i2, by omega, h2, trivial⟩
    · right; simp only; rw [last_app]; exact c1
    · rw [hl]; simp only; rw [last_app]; exact Int.le_refl _
    · intro hB; simp only at hB ⊢; have := i5 hB; rw [hl]; omega
    · simp only [List.length_append, List.length_cons, List.length_nil]; omega
    · rw [hl]; simp only; omega
    · rintro ⟨y, hy, hy1, hy2⟩
      simp only [List.length_append, List.length_cons, List.length_nil]
      rcases List.mem_append.1 hy with hy | hy
      · have := i10 ⟨y, hy, hy1, hy2⟩; omega
      · simp at hy; subst hy; omega
  · rw [if_neg c1]
    by_cases c2 : q.2 < x.1
    · rw [if_pos c2]
      refine ⟨fun n => ?_, i2, i3, ?_, ?_, ?_, i6, ?_, ?_, ?_, ?_, i11⟩
      · simp only [inn_app, inn_one]
        have := i1 n
        constructor
        · rintro (k | k | k | k)
          · rcases this.1 (.inl k) with k | k
            · exact .inl (.inl k)
            · exact .inr k
          · rcases this.1 (.inr (.inl k)) with k | k
            · exact .inl (.inl k)
            · exact .inr k
          · rcases this.1 (.inr (.inr k)) with k | k
            · exact .inl (.inl k)
            · exact .inr k
          · exact .inl (.inr k)
        · rintro ((k | k) | k)
          · rcases this.2 (.inl k) with k | k | k
            · exact .inl k
            · exact .inr (.inl k)
            · exact .inr (.inr (.inl k))
          · exact .inr (.inr (.inr k))
          · rcases this.2 (.inr k) with k | k | k
            · exact .inl k
            · exact .inr (.inl k)
            · exact .inr (.inr (.inl k))
      · simp only; rw [hl]; omega
      · simp only; rw [chain_app]
        refine ⟨i4, ?_, h2, trivial⟩
        by_cases hB : B = []
        · subst hB; exact c2
        · have := (i5 hB).1; omega
      · intro _; simp only; rw [last_app, hl]; exact ⟨Int.le_refl _, by omega⟩
      · intro b hb
        simp only at hb
        rcases List.mem_append.1 hb with hb | hb
        · exact i7 b hb
        · simp at hb; subst hb; omega
      · simp only [List.length_append, List.length_cons, List.length_nil]; omega
      · simp only; rw [hl]; omega
      · rintro ⟨y, hy, hy1, hy2⟩
        simp only [List.length_append, List.length_cons, List.length_nil]
        rcases List.mem_append.1 hy with hy | hy
        · have := i10 ⟨y, hy, hy1, hy2⟩; omega
        · simp at hy; subst hy; omega
    · rw [if_neg c2]
      have hB : B = [] := by
        apply Decidable.byContradiction
        intro hB
        have := (i5 hB).2; omega
      subst hB
      refine ⟨fun n => ?_, i2, ?_, ?_, trivial, fun h => absurd rfl h, ?_, fun b hb => by simp at hb, ?_, ?_, ?_, ?_⟩
      · simp only [inn_app, inn_one]
        have := i1 n
        have hn := inn_nil n
        have key : ((min q.1 x.1 ≤ n ∧ n < max q.2 x.2)) ↔ (q.1 ≤ n ∧ n < q.2) ∨ (x.1 ≤ n ∧ n < x.2) := by omega
        rw [key]
        constructor
        · rintro (k | (k | k) | k)
          · rcases this.1 (.inl k) with k | k
            · exact .inl (.inl k)
            · exact .inr k
          · rcases this.1 (.inr (.inl k)) with k | k
            · exact .inl (.inl k)
            · exact .inr k
          · exact .inl (.inr k)
          · exact absurd k hn
        · rintro ((k | k) | k)
          · rcases this.2 (.inl k) with k | k | k
            · exact .inl k
            · exact .inr (.inl (.inl k))
            · exact absurd k hn
          · exact .inr (.inl (.inr k))
          · rcases this.2 (.inr k) with k | k | k
            · exact .inl k
            · exact .inr (.inl (.inl k))
            · exact absurd k hn
      · rcases i3 with k | k
        · exact .inl k
        · right; simp only; omega
      · simp only; rw [hl]; omega
      · simp only; omega
      · simp only [List.length_append, List.length_cons, List.length_nil] at i8 ⊢; omega
      · simp only; rw [hl]; omega
      · intro _; simp only [List.length_append, List.length_cons, List.length_nil] at i8 ⊢; omega
      · simp only; omega
theorem merge_inv (d : Int) (r : R) (hr : r.1 < r.2) : ∀ (l : List R), chain d l → ∀ k, k ≤ l.length → Inv d r (l.take k) ((l.take k).foldl step ([], r, [])) := by
  intro l hl k
  induction k with
  | zero =>
    intro _
    simp only [List.take_zero, List.foldl_nil]
    exact ⟨fun n => by simp [inn_nil], trivial, .inl rfl, Int.le_refl _, trivial, fun h => absurd rfl h, hr, fun b hb => by simp at hb, by simp, by simp only [last]; omega, fun ⟨x, hx, _⟩ => by simp at hx, ⟨Int.le_refl _, Int.le_refl _⟩⟩
  | succ k ih =>
    intro hk
    have hlt : k < l.length := by omega
    have ih := ih (by omega)
    rw [List.take_succ_eq_append_getElem hlt, List.foldl_append]
    have hc := hl
    rw [← List.take_append_drop (k + 1) l, List.take_succ_eq_append_getElem hlt, chain_app] at hc
    have hc1 := hc.1
    rw [chain_app] at hc1
    exact Inv.step ih hc1.2.1 hc1.2.2.1 hc1.1
theorem merge_all (d : Int) (r : R) (hr : r.1 < r.2) (l : List R) (hl : chain d l) : Inv d r l (merge r l) := by
  have := merge_inv d r hr l hl l.length (Nat.le_refl _)
  rwa [List.take_length] at this
/-- a range is added -/
def add (d : Int) (l : List R) (r : R) : Int × List R :=
  if r.1 < r.2 then (if (merge r l).2.1.1 ≤ d then (max d (merge r l).2.1.2, (merge r l).2.2) else (d, (merge r l).1 ++ [(merge r l).2.1] ++ (merge r l).2.2)) else (d, l)
structure Added (d : Int) (l : List R) (r : R) (e : Int) (m : List R) : Prop where
  ch : chain e m
  ge : d ≤ e
  hi : last e m ≤ max r.2 (last d l)
  len : m.length ≤ l.length + 1
  kn : ∀ n, knows e m n ↔ knows d l n ∨ (r.1 ≤ n ∧ n < r.2)
  len' : (∃ x ∈ l, ¬ x.2 < r.1 ∧ ¬ r.2 < x.1) ∨ r.1 ≤ d → m.length ≤ l.length
theorem added (d : Int) (l : List R) (r : R) (hl : chain d l) : Added d l r (add d l r).1 (add d l r).2 := by
  have hdl := chain_le l d hl
  unfold add
  by_cases hr : r.1 < r.2
  · rw [if_pos hr]
    obtain ⟨i1, i2, i3, i3', i4, i5, i6, i7, i8, i9, i10, i11⟩ := merge_all d r hr l hl
    generalize hm : merge r l = s at *
    obtain ⟨A, q, B⟩ := s
    simp only at i1 i2 i3 i3' i4 i5 i6 i7 i8 i9 i10 i11 ⊢
    by_cases c : q.1 ≤ d
    · rw [if_pos c]
      have hA : A = [] := by
        rcases i3 with k | k
        · exact k
        · have := chain_le A d i2; omega
      subst hA
      refine ⟨chain_low i4 fun x hx => ?_, by simp only; omega, ?_, by simp only [List.length_nil] at i8; simp only; omega, fun n => ?_, fun _ => by simp only [List.length_nil] at i8; simp only; omega⟩
      · have := i7 x hx; have := (chain_mem B q.2 i4 x hx).1; simp only; omega
      · by_cases hB : B = []
        · subst hB; simp only [last]; omega
        · simp only; rw [last_low hB (low' := q.2)]; have := (i5 hB).1; omega
      · have h1 := i1 n
        have hn := inn_nil n
        simp only [knows]
        constructor
        · rintro (k | k)
          · by_cases hd : n < d
            · exact .inl (.inl hd)
            · rcases h1.1 (.inr (.inl ⟨by omega, by omega⟩)) with k | k
              · exact .inl (.inr k)
              · exact .inr k
          · rcases h1.1 (.inr (.inr k)) with k | k
            · exact .inl (.inr k)
            · exact .inr k
        · rintro ((k | k) | k)
          · exact .inl (by omega)
          · rcases h1.2 (.inl k) with k | k | k
            · exact absurd k hn
            · exact .inl (by omega)
            · exact .inr k
          · rcases h1.2 (.inr k) with k | k | k
            · exact absurd k hn
            · exact .inl (by omega)
            · exact .inr k
    · rw [if_neg c]
      have hq : last d A < q.1 := by
        rcases i3 with k | k
        · subst k; show d < q.1; omega
        · exact k
      refine ⟨?_, Int.le_refl _, ?_, by simp only [List.length_append, List.length_cons, List.length_nil]; omega, fun n => ?_, ?_⟩
      · simp only
        rw [chain_app, chain_app, last_app]
        exact ⟨⟨i2, hq, i6, trivial⟩, i4⟩
      · simp only
        rw [last_app, last_app]
        show last q.2 B ≤ _
        by_cases hB : B = []
        · subst hB; simp only [last]; omega
        · have := (i5 hB).1; omega
      · have h1 := i1 n
        simp only [knows, inn_app, inn_one]
        constructor
        · rintro (k | (k | k) | k)
          · exact .inl (.inl k)
          · rcases h1.1 (.inl k) with k | k
            · exact .inl (.inr k)
            · exact .inr k
          · rcases h1.1 (.inr (.inl k)) with k | k
            · exact .inl (.inr k)
            · exact .inr k
          · rcases h1.1 (.inr (.inr k)) with k | k
            · exact .inl (.inr k)
            · exact .inr k
        · rintro ((k | k) | k)
          · exact .inl k
          · rcases h1.2 (.inl k) with k | k | k
            · exact .inr (.inl (.inl k))
            · exact .inr (.inl (.inr k))
            · exact .inr (.inr k)
          · rcases h1.2 (.inr k) with k | k | k
            · exact .inr (.inl (.inl k))
            · exact .inr (.inl (.inr k))
            · exact .inr (.inr k)
      · rintro (k | k)
        · have := i10 k
          simp only [List.length_append, List.length_cons, List.length_nil]; omega
        · omega
  · rw [if_neg hr]
    exact ⟨hl, Int.le_refl _, by simp only; omega, by simp only; omega, fun n => ⟨.inl, fun k => k.elim id fun k => absurd k (by omega)⟩, fun _ => Nat.le_refl _⟩
/-- ranges of raw numbers -/
def rangeOf (a b : Int) : R := (a % 170, a % 170 + b % 30)
theorem rangeOf_bd (a b : Int) : 0 ≤ (rangeOf a b).1 ∧ (rangeOf a b).1 ≤ (rangeOf a b).2 ∧ (rangeOf a b).2 ≤ 200 := by
  unfold rangeOf; simp only; omega
def rg (L : List Int) (i : Nat) : R := rangeOf (L.getD (2 * i) default) (L.getD (2 * i + 1) default)
def rgs (L : List Int) (k : Nat) : List R := (List.range k).map (rg L)
theorem rgs_len (L : List Int) (k : Nat) : (rgs L k).length = k := by simp [rgs]
theorem rgs_snoc (L : List Int) (k : Nat) : rgs L (k + 1) = rgs L k ++ [rg L k] := by simp [rgs, List.range_succ]
/-- what came, range by range; what has no room leaves it as it was -/
def hstep (s : Int × List R) (r : R) : Int × List R := if 16 < (add s.1 s.2 r).2.length then s else add s.1 s.2 r
def heap (rs : List R) : Int × List R := rs.foldl hstep (0, [])
theorem heap_snoc (rs : List R) (r : R) : heap (rs ++ [r]) = hstep (heap rs) r := by simp [heap]
structure Good (r : R) : Prop where
  f0 : 0 ≤ r.1
  le : r.1 ≤ r.2
  hi : r.2 ≤ 200
theorem hstep_may {s : Int × List R} {r : R} (h : May s.1 s.2) (hr : Good r) : May (hstep s r).1 (hstep s r).2 := by
  unfold hstep
  split
  · exact h
  · obtain ⟨a1, a2, a3, a4, a5, a6⟩ := added s.1 s.2 r h.ch
    have := h.d0; have := h.hi; have := hr.hi
    exact ⟨by omega, a1, by omega, by omega⟩
theorem heap_may : ∀ (n : Nat) (rs : List R), rs.length = n → (∀ r ∈ rs, Good r) → May (heap rs).1 (heap rs).2
  | 0, rs, hn, _ => by
    obtain rfl := List.length_eq_zero_iff.1 hn
    exact ⟨Int.le_refl _, trivial, by show (0 : Int) ≤ _; decide, by simp [heap]⟩
  | n + 1, rs, hn, h => by
    obtain ⟨t, r, rfl⟩ : ∃ t r, rs = t ++ [r] := ⟨rs.dropLast, rs.getLast (by intro e; rw [e] at hn; simp at hn), (List.dropLast_concat_getLast _).symm⟩
    rw [heap_snoc]
    exact hstep_may (heap_may n t (by simpa using hn) (fun x hx => h x (by simp [hx]))) (h r (by simp))
/-- few ranges: all are known -/
theorem heap_knows : ∀ (n : Nat) (rs : List R), rs.length = n → n ≤ 16 → (∀ r ∈ rs, Good r) → (heap rs).2.length ≤ n ∧ ∀ x, knows (heap rs).1 (heap rs).2 x ↔ x < 0 ∨ inn rs x
  | 0, rs, hn, _, _ => by
    obtain rfl := List.length_eq_zero_iff.1 hn
    exact ⟨Nat.le_refl _, fun x => by simp [heap, knows]⟩
  | n + 1, rs, hn, hk, h => by
    obtain ⟨t, r, rfl⟩ : ∃ t r, rs = t ++ [r] := ⟨rs.dropLast, rs.getLast (by intro e; rw [e] at hn; simp at hn), (List.dropLast_concat_getLast _).symm⟩
    have ht : ∀ x ∈ t, Good x := fun x hx => h x (by simp [hx])
    obtain ⟨h1, h2⟩ := heap_knows n t (by simpa using hn) (by omega) ht
    have hm := heap_may n t (by simpa using hn) ht
    obtain ⟨a1, a2, a3, a4, a5, a6⟩ := added (heap t).1 (heap t).2 r hm.ch
    rw [heap_snoc]
    unfold hstep
    rw [if_neg (by omega)]
    refine ⟨by omega, fun x => ?_⟩
    rw [a5, h2, inn_app, inn_one]
    exact ⟨fun k => by rcases k with (k | k) | k; exact .inl k; exact .inr (.inl k); exact .inr (.inr k), fun k => by rcases k with k | k | k; exact .inl (.inl k); exact .inl (.inr k); exact .inr k⟩
/-- what is known already changes nothing -/
theorem hstep_same {s : Int × List R} {r : R} (h : May s.1 s.2) (hk : ∀ n, r.1 ≤ n → n < r.2 → knows s.1 s.2 n) : hstep s r = s := by
  obtain ⟨a1, a2, a3, a4, a5, a6⟩ := added s.1 s.2 r h.ch
  have e := knows_eq a1 h.ch fun n => by
    rw [a5]
    exact ⟨fun k => k.elim id fun k => hk n k.1 k.2, .inl⟩
  unfold hstep
  have e2 : add s.1 s.2 r = s := Prod.ext e.1 e.2
  rw [e2]
  split <;> rfl
theorem heap_same : ∀ (n : Nat) (rs qs : List R), qs.length = n → May (heap rs).1 (heap rs).2 → (∀ r ∈ qs, ∀ x, r.1 ≤ x → x < r.2 → knows (heap rs).1 (heap rs).2 x) → heap (rs ++ qs) = heap rs
  | 0, rs, qs, hn, _, _ => by
    obtain rfl := List.length_eq_zero_iff.1 hn
    rw [List.append_nil]
  | n + 1, rs, qs, hn, hm, h => by
    obtain ⟨t, r, rfl⟩ : ∃ t r, qs = t ++ [r] := ⟨qs.dropLast, qs.getLast (by intro e; rw [e] at hn; simp at hn), (List.dropLast_concat_getLast _).symm⟩
    have ih := heap_same n rs t (by simpa using hn) hm (fun q hq => h q (by simp [hq]))
    rw [← List.append_assoc, heap_snoc, ih]
    exact hstep_same hm (h r (by simp))
/-- in another order, and once more: the same -/
theorem heap_turned (ps os : List R) (hp : ps.length ≤ 12) (ho : os.length ≤ 12) (hg : ∀ r ∈ ps, Good r) (he : ∀ r, r ∈ os ↔ r ∈ ps) : heap (os ++ ps) = heap ps := by
  have hg' : ∀ r ∈ os, Good r := fun r hr => hg r ((he r).1 hr)
  obtain ⟨a1, a2⟩ := heap_knows _ ps rfl (by omega) hg
  obtain ⟨b1, b2⟩ := heap_knows _ os rfl (by omega) hg'
  have ma := heap_may _ ps rfl hg
  have mb := heap_may _ os rfl hg'
  have hin : ∀ x, inn os x ↔ inn ps x := fun x => ⟨fun ⟨r, h, k⟩ => ⟨r, (he r).1 h, k⟩, fun ⟨r, h, k⟩ => ⟨r, (he r).2 h, k⟩⟩
  have e := knows_eq mb.ch ma.ch fun x => by rw [a2, b2, hin]
  rw [heap_same _ os ps rfl mb fun r hr x h1 h2 => (b2 x).2 (.inr ((hin x).2 ⟨r, hr, h1, h2⟩))]
  exact Prod.ext e.1 e.2
/-- gaps -/
def gaps : Int → List R → List R
  | _, [] => []
  | d, r :: t => (d, r.1) :: gaps r.2 t
theorem gaps_len : ∀ (l : List R) (d : Int), (gaps d l).length = l.length
  | [], _ => rfl
  | r :: t, d => by simp [gaps, gaps_len t]
theorem gaps_mem : ∀ (l : List R) (d : Int), chain d l → ∀ g ∈ gaps d l, d ≤ g.1 ∧ g.1 < g.2 ∧ g.2 < last d l ∧ ¬ inn l g.1 ∧ inn l g.2
  | r :: t, d, h, g, hg => by
    have hle := chain_le t r.2 h.2.2
    have h1 := h.1
    have h2 := h.2.1
    have hl : last d (r :: t) = last r.2 t := rfl
    rcases List.mem_cons.1 hg with rfl | hg
    · refine ⟨Int.le_refl _, h1, ?_, fun k => ?_, ?_⟩
      · rw [hl]; simp only; omega
      · have := (inn_lt h k).1; simp only at this; omega
      · exact (inn_cons r t _).2 (.inl ⟨Int.le_refl _, h2⟩)
    · obtain ⟨a, b, c, e, f⟩ := gaps_mem t r.2 h.2.2 g hg
      refine ⟨by omega, b, by rw [hl]; exact c, fun k => ?_, (inn_cons r t _).2 (.inr f)⟩
      rcases (inn_cons r t _).1 k with ⟨_, k⟩ | k
      · omega
      · exact e k
theorem gaps_all : ∀ (l : List R) (d : Int), chain d l → ∀ n, d ≤ n → (n < last d l ↔ inn l n ∨ inn (gaps d l) n)
  | [], d, _, n, hn => by simp [inn_nil, gaps, last]; omega
  | r :: t, d, h, n, hn => by
    have hl : last d (r :: t) = last r.2 t := rfl
    have h1 := h.1
    have h2 := h.2.1
    have hle := chain_le t r.2 h.2.2
    rw [hl, inn_cons, show gaps d (r :: t) = (d, r.1) :: gaps r.2 t from rfl, inn_cons]
    by_cases c : n < r.2
    · simp only
      constructor
      · intro _
        by_cases c2 : n < r.1
        · exact .inr (.inl ⟨hn, c2⟩)
        · exact .inl (.inl ⟨by omega, c⟩)
      · intro _; omega
    · have ih := gaps_all t r.2 h.2.2 n (by omega)
      rw [ih]
      constructor
      · rintro (k | k)
        · exact .inl (.inr k)
        · exact .inr (.inr k)
      · rintro ((k | k) | (k | k))
        · omega
        · exact .inl k
        · simp only at k; omega
        · exact .inr k
/-- gaps filled: each finds room -/
structure Filled (d : Int) (l fs : List R) (s : Int × List R) : Prop where
  may : May s.1 s.2
  kn : ∀ n, knows s.1 s.2 n ↔ knows d l n ∨ inn fs n
theorem Filled.step {d : Int} {l fs : List R} {s : Int × List R} (h : Filled d l fs s) (hd : May d l) {g : R} (hg : g ∈ gaps d l) :
    (add s.1 s.2 g).2.length ≤ 16 ∧ Filled d l (fs ++ [g]) (add s.1 s.2 g) := by
  obtain ⟨g1, g2, g3, g4, g5⟩ := gaps_mem l d hd.ch g hg
  obtain ⟨m1, m2, m3, m4⟩ := h.may
  obtain ⟨a1, a2, a3, a4, a5, a6⟩ := added s.1 s.2 g m2
  have hk := (h.kn g.2).2 (.inl (.inr g5))
  have hl : (add s.1 s.2 g).2.length ≤ s.2.length := by
    apply a6
    rcases hk with k | ⟨x, hx, k1, k2⟩
    · right; omega
    · left; exact ⟨x, hx, by omega, by omega⟩
  have := hd.hi
  refine ⟨by omega, ⟨by omega, a1, by omega, by omega⟩, fun n => ?_⟩
  rw [a5, h.kn, inn_app, inn_one]
  exact ⟨fun k => by rcases k with (k | k) | k; exact .inl k; exact .inr (.inl k); exact .inr (.inr k), fun k => by rcases k with k | k | k; exact .inl (.inl k); exact .inl (.inr k); exact .inr k⟩
theorem Filled.done {d : Int} {l fs : List R} {s : Int × List R} (h : Filled d l fs s) (hd : May d l) (hf : ∀ g, g ∈ fs ↔ g ∈ gaps d l) : s.1 = last d l ∧ s.2 = [] := by
  have hle := chain_le l d hd.ch
  refine knows_eq h.may.ch (m := []) trivial fun n => ?_
  rw [h.kn]
  have e : inn fs n ↔ inn (gaps d l) n := ⟨fun ⟨r, h, k⟩ => ⟨r, (hf r).1 h, k⟩, fun ⟨r, h, k⟩ => ⟨r, (hf r).2 h, k⟩⟩
  rw [e]
  by_cases c : n < d
  · exact ⟨fun _ => .inl (by omega), fun _ => .inl (.inl c)⟩
  · have := gaps_all l d hd.ch n (by omega)
    constructor
    · rintro ((k | k) | k)
      · exact absurd k c
      · exact .inl (this.2 (.inl k))
      · exact .inl (this.2 (.inr k))
    · rintro (k | k)
      · rcases this.1 k with k | k
        · exact .inl (.inr k)
        · exact .inr k
      · exact absurd k (inn_nil n)
/-- turned round, each comes once -/
theorem turn_mem {α : Type} (f : Nat → α) (n t : Nat) (ht : t < n) (x : α) : (∃ i, i < n ∧ f ((i + t) % n) = x) ↔ ∃ i, i < n ∧ f i = x := by
  constructor
  · rintro ⟨i, hi, e⟩
    exact ⟨(i + t) % n, Nat.mod_lt _ (by omega), e⟩
  · rintro ⟨i, hi, e⟩
    refine ⟨(i + (n - t)) % n, Nat.mod_lt _ (by omega), ?_⟩
    rw [Nat.mod_add_mod, show i + (n - t) + t = i + n by omega, Nat.add_mod_right, Nat.mod_eq_of_lt hi]
    exact e
end hole
end Go.Proofs.Ytkinpmbokkfpbaa
