/-
  PLAIN LAW of package hole: ranges beyond a gap, merged; what is known of a place. No program in sight.
-/
import Derived.Test.YtcllddkhnbnigaaCom
namespace Go.Proofs.Ytcllddkhnbnigaa
set_option linter.unusedVariables false

namespace hole
abbrev R := Int × Int
def chain : Int → List R → Prop
  | _, [] => True
  | low, r :: t => low < r.1 ∧ r.1 < r.2 ∧ chain r.2 t
def last : Int → List R → Int
  | low, [] => low
  | _, r :: t => last r.2 t
theorem last_app : ∀ (l m : List R) (low : Int), last low (l ++ m) = last (last low l) m
  | [], m, low => rfl
  | r :: t, m, low => last_app t m r.2
theorem chain_app : ∀ (l m : List R) (low : Int), chain low (l ++ m) ↔ chain low l ∧ chain (last low l) m
  | [], m, low => by simp [chain, last]
  | r :: t, m, low => by
    show (low < r.1 ∧ r.1 < r.2 ∧ chain r.2 (t ++ m)) ↔ (low < r.1 ∧ r.1 < r.2 ∧ chain r.2 t) ∧ chain (last r.2 t) m
    rw [chain_app t m r.2]
    exact ⟨fun ⟨a, b, c, d⟩ => ⟨⟨a, b, c⟩, d⟩, fun ⟨⟨a, b, c⟩, d⟩ => ⟨a, b, c, d⟩⟩
theorem chain_le : ∀ (l : List R) (low : Int), chain low l → low ≤ last low l
  | [], low, _ => Int.le_refl _
  | r :: t, low, h => by have := chain_le t r.2 h.2.2; show low ≤ last r.2 t; have := h.1; have := h.2.1; omega
theorem chain_mem : ∀ (l : List R) (low : Int), chain low l → ∀ x ∈ l, low < x.1 ∧ x.1 < x.2 ∧ x.2 ≤ last low l
  | r :: t, low, h, x, hx => by
    have hle := chain_le t r.2 h.2.2
    rcases List.mem_cons.1 hx with rfl | hx
    · exact ⟨h.1, h.2.1, hle⟩
    · obtain ⟨a, b, c⟩ := chain_mem t r.2 h.2.2 x hx
      have := h.1; have := h.2.1
      exact ⟨by omega, b, c⟩
theorem chain_low {l : List R} {low low' : Int} (h : chain low l) (h' : ∀ x ∈ l, low' < x.1) : chain low' l := by
  cases l with
  | nil => exact trivial
  | cons r t => exact ⟨h' r (by simp), h.2.1, h.2.2⟩
theorem last_low {l : List R} {low low' : Int} (h : l ≠ []) : last low l = last low' l := by
  cases l with
  | nil => exact absurd rfl h
  | cons r t => rfl
def inn (l : List R) (n : Int) : Prop := ∃ r ∈ l, r.1 ≤ n ∧ n < r.2
theorem inn_nil (n : Int) : ¬ inn [] n := fun ⟨r, h, _⟩ => by simp at h
theorem inn_app (l m : List R) (n : Int) : inn (l ++ m) n ↔ inn l n ∨ inn m n := by
  constructor
  · rintro ⟨r, h, k⟩
    rcases List.mem_append.1 h with h | h
    · exact .inl ⟨r, h, k⟩
    · exact .inr ⟨r, h, k⟩
  · rintro (⟨r, h, k⟩ | ⟨r, h, k⟩)
    · exact ⟨r, List.mem_append_left _ h, k⟩
    · exact ⟨r, List.mem_append_right _ h, k⟩
theorem inn_one (r : R) (n : Int) : inn [r] n ↔ r.1 ≤ n ∧ n < r.2 := by
  constructor
  · rintro ⟨q, h, k⟩; simp at h; subst h; exact k
  · intro k; exact ⟨r, by simp, k⟩
theorem inn_cons (r : R) (l : List R) (n : Int) : inn (r :: l) n ↔ (r.1 ≤ n ∧ n < r.2) ∨ inn l n := by
  rw [show r :: l = [r] ++ l from rfl, inn_app, inn_one]
def knows (d : Int) (l : List R) (n : Int) : Prop := n < d ∨ inn l n
structure May (d : Int) (l : List R) : Prop where
  d0 : 0 ≤ d
  ch : chain d l
  hi : last d l ≤ 1048576
  len : l.length ≤ 16
theorem inn_lt {l : List R} {low n : Int} (h : chain low l) (hn : inn l n) : low < n ∧ n < last low l := by
  obtain ⟨r, hr, h1, h2⟩ := hn
  obtain ⟨a, b, c⟩ := chain_mem l low h r hr
  omega


/-- one range is looked at: it stands ahead, behind, or touches -/
def step (s : List R × R × List R) (x : R) : List R × R × List R :=
  if x.2 < s.2.1.1 then (s.1 ++ [x], s.2.1, s.2.2) else if s.2.1.2 < x.1 then (s.1, s.2.1, s.2.2 ++ [x]) else (s.1, (min s.2.1.1 x.1, max s.2.1.2 x.2), s.2.2)
def merge (r : R) (l : List R) : List R × R × List R := l.foldl step ([], r, [])
structure Inv (d : Int) (r : R) (P : List R) (s : List R × R × List R) : Prop where
  i1 : ∀ n, (inn s.1 n ∨ (s.2.1.1 ≤ n ∧ n < s.2.1.2) ∨ inn s.2.2 n) ↔ inn P n ∨ (r.1 ≤ n ∧ n < r.2)
  i2 : chain d s.1
  i3 : s.1 = [] ∨ last d s.1 < s.2.1.1
  i3' : last d s.1 ≤ last d P
  i4 : chain s.2.1.2 s.2.2
  i5 : s.2.2 ≠ [] → last s.2.1.2 s.2.2 ≤ last d P ∧ s.2.1.2 < last d P
  i6 : s.2.1.1 < s.2.1.2
  i7 : ∀ b ∈ s.2.2, d < b.1
  i8 : s.1.length + s.2.2.length ≤ P.length
  i9 : s.2.1.2 ≤ max r.2 (last d P)
  i10 : (∃ x ∈ P, ¬ x.2 < r.1 ∧ ¬ r.2 < x.1) → s.1.length + s.2.2.length + 1 ≤ P.length
  i11 : s.2.1.1 ≤ r.1 ∧ r.2 ≤ s.2.1.2
theorem Inv.step {d : Int} {r : R} {P : List R} {s : List R × R × List R} {x : R} (h : Inv d r P s) (h1 : last d P < x.1) (h2 : x.1 < x.2) (hd : chain d P) : Inv d r (P ++ [x]) (step s x) := by
  obtain ⟨A, q, B⟩ := s
  obtain ⟨i1, i2, i3, i3', i4, i5, i6, i7, i8, i9, i10, i11⟩ := h
  simp only at i1 i2 i3 i3' i4 i5 i6 i7 i8 i9 i10 i11
  have hl : last d (P ++ [x]) = x.2 := by rw [last_app]; rfl
  have hdl := chain_le P d hd
  unfold hole.step
  simp only
  by_cases c1 : x.2 < q.1
  · rw [if_pos c1]
    refine ⟨fun n => ?_, ?_, ?_, ?_, i4, ?_, i6, i7, ?_, ?_, ?_, i11⟩
    · simp only [inn_app, inn_one]
      have := i1 n
      constructor
      · rintro ((k | k) | k)
        · rcases this.1 (.inl k) with k | k
          · exact .inl (.inl k)
          · exact .inr k
        · exact .inl (.inr k)
        · rcases this.1 (.inr k) with k | k
          · exact .inl (.inl k)
          · exact .inr k
      · rintro ((k | k) | k)
        · rcases this.2 (.inl k) with k | k
          · exact .inl (.inl k)
          · exact .inr k
        · exact .inl (.inr k)
        · rcases this.2 (.inr k) with k | k
          · exact .inl (.inl k)
          · exact .inr k
    · simp only; rw [chain_app]; exact ⟨i2, by omega, h2, trivial⟩
    · right; simp only; rw [last_app]; exact c1
    · rw [hl]; simp only; rw [last_app]; exact Int.le_refl _
    · intro hB; simp only at hB ⊢; have := i5 hB; rw [hl]; omega
    · simp only [List.length_append, List.length_cons, List.length_nil]; omega
    · rw [hl]; simp only; omega
    · rintro ⟨y, hy, hy1, hy2⟩
      simp only [List.length_append, List.length_cons, List.length_nil]
      rcases List.mem_append.1 hy with hy | hy
      · have := i10 ⟨y, hy, hy1, hy2⟩; omega
      · simp at hy; subst hy; omega
  · rw [if_neg c1]
    by_cases c2 : q.2 < x.1
    · rw [if_pos c2]
      refine ⟨fun n => ?_, i2, i3, ?_, ?_, ?_, i6, ?_, ?_, ?_, ?_, i11⟩
      · simp only [inn_app, inn_one]
        have := i1 n
        constructor
        · rintro (k | k | k | k)
          · rcases this.1 (.inl k) with k | k
            · exact .inl (.inl k)
            · exact .inr k
          · rcases this.1 (.inr (.inl k)) with k | k
            · exact .inl (.inl k)
            · exact .inr k
          · rcases this.1 (.inr (.inr k)) with k | k
            · exact .inl (.inl k)
            · exact .inr k
          · exact .inl (.inr k)
        · rintro ((k | k) | k)
          · rcases this.2 (.inl k) with k | k | k
            · exact .inl k
            · exact .inr (.inl k)
            · exact .inr (.inr (.inl k))
          · exact .inr (.inr (.inr k))
          · rcases this.2 (.inr k) with k | k | k
            · exact .inl k
            · exact .inr (.inl k)
            · exact .inr (.inr (.inl k))
      · simp only; rw [hl]; omega
      · simp only; rw [chain_app]
        refine ⟨i4, ?_, h2, trivial⟩
        by_cases hB : B = []
        · subst hB; exact c2
        · have := (i5 hB).1; omega
      · intro _; simp only; rw [last_app, hl]; exact ⟨Int.le_refl _, by omega⟩
      · intro b hb
        simp only at hb
        rcases List.mem_append.1 hb with hb | hb
        · exact i7 b hb
        · simp at hb; subst hb; omega
      · simp only [List.length_append, List.length_cons, List.length_nil]; omega
      · simp only; rw [hl]; omega
      · rintro ⟨y, hy, hy1, hy2⟩
        simp only [List.length_append, List.length_cons, List.length_nil]
        rcases List.mem_append.1 hy with hy | hy
        · have := i10 ⟨y, hy, hy1, hy2⟩; omega
        · simp at hy; subst hy; omega
    · rw [if_neg c2]
      have hB : B = [] := by
        apply Decidable.byContradiction
        intro hB
        have := (i5 hB).2; omega
      subst hB
      refine ⟨fun n => ?_, i2, ?_, ?_, trivial, fun h => absurd rfl h, ?_, fun b hb => by simp at hb, ?_, ?_, ?_, ?_⟩
      · simp only [inn_app, inn_one]
        have := i1 n
        have hn := inn_nil n
        have key : ((min q.1 x.1 ≤ n ∧ n < max q.2 x.2)) ↔ (q.1 ≤ n ∧ n < q.2) ∨ (x.1 ≤ n ∧ n < x.2) := by omega
        rw [key]
        constructor
        · rintro (k | (k | k) | k)
          · rcases this.1 (.inl k) with k | k
            · exact .inl (.inl k)
            · exact .inr k
          · rcases this.1 (.inr (.inl k)) with k | k
            · exact .inl (.inl k)
            · exact .inr k
          · exact .inl (.inr k)
          · exact absurd k hn
        · rintro ((k | k) | k)
          · rcases this.2 (.inl k) with k | k | k
            · exact .inl k
            · exact .inr (.inl (.inl k))
            · exact absurd k hn
          · exact .inr (.inl (.inr k))
          · rcases this.2 (.inr k) with k | k | k
            · exact .inl k
            · exact .inr (.inl (.inl k))
            · exact absurd k hn
      · rcases i3 with k | k
        · exact .inl k
        · right; simp only; omega
      · simp only; rw [hl]; omega
      · simp only; omega
      · simp only [List.length_append, List.length_cons, List.length_nil] at i8 ⊢; omega
      · simp only; rw [hl]; omega
      · intro _; simp only [List.length_append, List.length_cons, List.length_nil] at i8 ⊢; omega
      · simp only; omega
theorem merge_inv (d : Int) (r : R) (hr : r.1 < r.2) : ∀ (l : List R), chain d l → ∀ k, k ≤ l.length → Inv d r (l.take k) ((l.take k).foldl step ([], r, [])) := by
  intro l hl k
  induction k with
  | zero =>
    intro _
    simp only [List.take_zero, List.foldl_nil]
    exact ⟨fun n => by simp [inn_nil], trivial, .inl rfl, Int.le_refl _, trivial, fun h => absurd rfl h, hr, fun b hb => by simp at hb, by simp, by simp only [last]; omega, fun ⟨x, hx, _⟩ => by simp at hx, ⟨Int.le_refl _, Int.le_refl _⟩⟩
  | succ k ih =>
    intro hk
    have hlt : k < l.length := by omega
    have ih := ih (by omega)
    rw [List.take_succ_eq_append_getElem hlt, List.foldl_append]
    have hc := hl
    rw [← List.take_append_drop (k + 1) l, List.take_succ_eq_append_getElem hlt, chain_app] at hc
    have hc1 := hc.1
    rw [chain_app] at hc1
    exact Inv.step ih hc1.2.1 hc1.2.2.1 hc1.1
theorem merge_all (d : Int) (r : R) (hr : r.1 < r.2) (l : List R) (hl : chain d l) : Inv d r l (merge r l) := by
  have := merge_inv d r hr l hl l.length (Nat.le_refl _)
  rwa [List.take_length] at this
/-- a range is added -/
def add (d : Int) (l : List R) (r : R) : Int × List R :=
  if r.1 < r.2 then (if (merge r l).2.1.1 ≤ d then (max d (merge r l).2.1.2, (merge r l).2.2) else (d, (merge r l).1 ++ [(merge r l).2.1] ++ (merge r l).2.2)) else (d, l)
structure Added (d : Int) (l : List R) (r : R) (e : Int) (m : List R) : Prop where
  ch : chain e m
  ge : d ≤ e
  hi : last e m ≤ max r.2 (last d l)
  len : m.length ≤ l.length + 1
  kn : ∀ n, knows e m n ↔ knows d l n ∨ (r.1 ≤ n ∧ n < r.2)
  len' : (∃ x ∈ l, ¬ x.2 < r.1 ∧ ¬ r.2 < x.1) ∨ r.1 ≤ d → m.length ≤ l.length
theorem added (d : Int) (l : List R) (r : R) (hl : chain d l) : Added d l r (add d l r).1 (add d l r).2 := by
  have hdl := chain_le l d hl
  unfold add
  by_cases hr : r.1 < r.2
  · rw [if_pos hr]
    obtain ⟨i1, i2, i3, i3', i4, i5, i6, i7, i8, i9, i10, i11⟩ := merge_all d r hr l hl
    generalize hm : merge r l = s at *
    obtain ⟨A, q, B⟩ := s
    simp only at i1 i2 i3 i3' i4 i5 i6 i7 i8 i9 i10 i11 ⊢
    by_cases c : q.1 ≤ d
    · rw [if_pos c]
      have hA : A = [] := by
        rcases i3 with k | k
        · exact k
        · have := chain_le A d i2; omega
      subst hA
      refine ⟨chain_low i4 fun x hx => ?_, by simp only; omega, ?_, by simp only [List.length_nil] at i8; simp only; omega, fun n => ?_, fun _ => by simp only [List.length_nil] at i8; simp only; omega⟩
      · have := i7 x hx; have := (chain_mem B q.2 i4 x hx).1; simp only; omega
      · by_cases hB : B = []
        · subst hB; simp only [last]; omega
        · simp only; rw [last_low hB (low' := q.2)]; have := (i5 hB).1; omega
      · have h1 := i1 n
        have hn := inn_nil n
        simp only [knows]
        constructor
        · rintro (k | k)
          · by_cases hd : n < d
            · exact .inl (.inl hd)
            · rcases h1.1 (.inr (.inl ⟨by omega, by omega⟩)) with k | k
              · exact .inl (.inr k)
              · exact .inr k
          · rcases h1.1 (.inr (.inr k)) with k | k
            · exact .inl (.inr k)
            · exact .inr k
        · rintro ((k | k) | k)
          · exact .inl (by omega)
          · rcases h1.2 (.inl k) with k | k | k
            · exact absurd k hn
            · exact .inl (by omega)
            · exact .inr k
          · rcases h1.2 (.inr k) with k | k | k
            · exact absurd k hn
            · exact .inl (by omega)
            · exact .inr k
    · rw [if_neg c]
      have hq : last d A < q.1 := by
        rcases i3 with k | k
        · subst k; show d < q.1; omega
        · exact k
      refine ⟨?_, Int.le_refl _, ?_, by simp only [List.length_append, List.length_cons, List.length_nil]; omega, fun n => ?_, ?_⟩
      · simp only
        rw [chain_app, chain_app, last_app]
        exact ⟨⟨i2, hq, i6, trivial⟩, i4⟩
      · simp only
        rw [last_app, last_app]
        show last q.2 B ≤ _
        by_cases hB : B = []
        · subst hB; simp only [last]; omega
        · have := (i5 hB).1; omega
      · have h1 := i1 n
        simp only [knows, inn_app, inn_one]
        constructor
        · rintro (k | (k | k) | k)
          · exact .inl (.inl k)
          · rcases h1.1 (.inl k) with k | k
            · exact .inl (.inr k)
            · exact .inr k
          · rcases h1.1 (.inr (.inl k)) with k | k
            · exact .inl (.inr k)
            · exact .inr k
          · rcases h1.1 (.inr (.inr k)) with k | k
            · exact .inl (.inr k)
            · exact .inr k
        · rintro ((k | k) | k)
          · exact .inl k
          · rcases h1.2 (.inl k) with k | k | k
            · exact .inr (.inl (.inl k))
            · exact .inr (.inl (.inr k))
            · exact .inr (.inr k)
          · rcases h1.2 (.inr k) with k | k | k
            · exact .inr (.inl (.inl k))
            · exact .inr (.inl (.inr k))
            · exact .inr (.inr k)
      · rintro (k | k)
        · have := i10 k
          simp only [List.length_append, List.length_cons, List.length_nil]; omega
        · omega
  · rw [if_neg hr]
    exact ⟨hl, Int.le_refl _, by simp only; omega, by simp only; omega, fun n => ⟨.inl, fun k => k.elim id fun k => absurd k (by omega)⟩, fun _ => Nat.le_refl _⟩
/-- ranges of raw numbers -/
def rangeOf (a b : Int) : R := (a % 170, a % 170 + b % 30)
def rg (L : List Int) (i : Nat) : R := rangeOf (L.getD (2 * i) default) (L.getD (2 * i + 1) default)
def rgs (L : List Int) (k : Nat) : List R := (List.range k).map (rg L)
/-- what came, range by range; what has no room leaves it as it was -/
def hstep (s : Int × List R) (r : R) : Int × List R := if 16 < (add s.1 s.2 r).2.length then s else add s.1 s.2 r
def heap (rs : List R) : Int × List R := rs.foldl hstep (0, [])
structure Good (r : R) : Prop where
  f0 : 0 ≤ r.1
  le : r.1 ≤ r.2
  hi : r.2 ≤ 200
/-- gaps -/
def gaps : Int → List R → List R
  | _, [] => []
  | d, r :: t => (d, r.1) :: gaps r.2 t
/-- gaps filled: each finds room -/
structure Filled (d : Int) (l fs : List R) (s : Int × List R) : Prop where
  may : May s.1 s.2
  kn : ∀ n, knows s.1 s.2 n ↔ knows d l n ∨ inn fs n
end hole
end Go.Proofs.Ytcllddkhnbnigaa
/-
  PLAIN LAW of hole.Sacks.
-/
namespace Go.Proofs.Ytcllddkhnbnigaa
open Go.RowKit

namespace hole
def inx (x : Int) (r : R) : Bool := decide (r.1 ≤ x) && decide (x < r.2)
theorem inx_iff (x : Int) (r : R) : inx x r = true ↔ r.1 ≤ x ∧ x < r.2 := by simp [inx]
def sk (x : Int) (l : List R) : List R := l.filter (inx x) ++ l.filter fun r => !inx x r
theorem split_perm (p : R → Bool) : ∀ l : List R, (l.filter p ++ l.filter fun r => !p r).Perm l
  | [] => .refl _
  | a :: t => by
    cases h : p a
    · simp only [List.filter_cons, h, Bool.not_false, Bool.false_eq_true, if_false, if_true]
      exact List.perm_middle.trans ((split_perm p t).cons a)
    · simp only [List.filter_cons, h, Bool.not_true, Bool.false_eq_true, if_false, if_true]
      exact (split_perm p t).cons a
def sacks (x : Int) (l : List R) (k : Nat) : List R := (sk x l.reverse).take k
theorem sk_perm (x : Int) (l : List R) : (sk x l.reverse).Perm l := (split_perm (inx x) l.reverse).trans (List.reverse_perm l)
theorem sacks_len (x : Int) (l : List R) (k : Nat) : (sacks x l k).length = min k l.length := by
  unfold sacks; rw [List.length_take, (sk_perm x l).length_eq]
theorem sacks_mem {x : Int} {l : List R} {k : Nat} {r : R} (h : r ∈ sacks x l k) : r ∈ l := (sk_perm x l).mem_iff.1 (List.mem_of_mem_take h)
theorem getD_eq' (l : List R) (i : Nat) (h : i < l.length) : l.getD i default = l[i] := by
  rw [List.getD_eq_getElem?_getD, List.getElem?_eq_getElem h]; rfl
def cnt (y : R) : List R → Nat
  | [] => 0
  | a :: t => (if a = y then 1 else 0) + cnt y t
end hole
end Go.Proofs.Ytcllddkhnbnigaa
/-
  WHO HEARS, IN PLAIN LEAN: what an arrival does ('doF'), what is kept ('HOk'). No program in sight.
-/
namespace Go.Proofs.Ytcllddkhnbnigaa
set_option linter.unusedVariables false
set_option linter.unusedSimpArgs false

namespace recv
open hole
structure He where
  room : Int
  data : List UInt8
  done : Int
  more : List R
  taken : Int
  end_ : Int
inductive Ar where
  | arr (f : Int) (b : List UInt8) (fin : Bool)
  | take (n : Int)
structure To where
  code : Int
  ack : Int
  window : Int
  sacks : List R
  data : List UInt8
  fin : Bool
instance : Inhabited To := ⟨⟨0, 0, 0, [], [], false⟩⟩
instance : Inhabited Ar := ⟨.take 0⟩
def innB (l : List R) (x : Int) : Bool := l.any (inx x)
theorem innB_iff (l : List R) (x : Int) : innB l x = true ↔ inn l x := by
  unfold innB inn
  rw [List.any_eq_true]
  exact exists_congr fun r => and_congr Iff.rfl (inx_iff x r)
/-- the first k bytes of b put from f on, where nothing is known -/
def putN (more : List R) (f : Nat) (b d : List UInt8) (k : Nat) : List UInt8 :=
  (List.range k).foldl (fun d i => if innB more ((f + i : Nat) : Int) then d else d.set (f + i) (b.getD i default)) d
theorem putN_succ (more : List R) (f : Nat) (b d : List UInt8) (k : Nat) : putN more f b d (k + 1) = if innB more ((f + k : Nat) : Int) then putN more f b d k else (putN more f b d k).set (f + k) (b.getD k default) := by
  unfold putN
  rw [List.range_succ, List.foldl_append]; rfl
theorem putN_len (more : List R) (f : Nat) (b d : List UInt8) : ∀ k, (putN more f b d k).length = d.length
  | 0 => rfl
  | k + 1 => by
    rw [putN_succ]
    split
    · exact putN_len more f b d k
    · rw [List.length_set]; exact putN_len more f b d k
theorem putN_at (more : List R) (f : Nat) (b d : List UInt8) : ∀ (k p : Nat), f + k ≤ d.length → (putN more f b d k).getD p default = if f ≤ p ∧ p < f + k ∧ innB more (p : Int) = false then b.getD (p - f) default else d.getD p default
  | 0, p, h => by rw [if_neg (by omega)]; rfl
  | k + 1, p, h => by
    have ih := putN_at more f b d k p (by omega)
    have hl := putN_len more f b d k
    rw [putN_succ]
    by_cases e : p = f + k
    · subst e
      cases hi : innB more ((f + k : Nat) : Int) with
      | true => rw [if_pos rfl, if_neg (by simp), ih, if_neg (by omega)]
      | false =>
        rw [if_neg (by simp), if_pos ⟨by omega, by omega, rfl⟩, show f + k - f = k by omega]
        rw [List.getD_eq_getElem?_getD, List.getElem?_set_self (by omega)]; rfl
    · have hsame : (if innB more ((f + k : Nat) : Int) = true then putN more f b d k else (putN more f b d k).set (f + k) (b.getD k default)).getD p default = (putN more f b d k).getD p default := by
        split
        · rfl
        · rw [List.getD_eq_getElem?_getD, List.getElem?_set_ne (Ne.symm e), ← List.getD_eq_getElem?_getD]
      rw [hsame, ih]
      by_cases c : f ≤ p ∧ p < f + k ∧ innB more (p : Int) = false
      · rw [if_pos c, if_pos ⟨c.1, by omega, c.2.2⟩]
      · rw [if_neg c, if_neg (fun h => c ⟨h.1, by omega, h.2.2⟩)]
/-- with zeros up to m -/
def ext (d : List UInt8) (m : Nat) : List UInt8 := d ++ List.replicate (m - d.length) 0
theorem ext_len (d : List UInt8) (m : Nat) : (ext d m).length = max d.length m := by
  unfold ext; rw [List.length_append, List.length_replicate]; omega
theorem ext_at (d : List UInt8) (m p : Nat) (h : p < d.length) : (ext d m).getD p default = d.getD p default := by
  unfold ext
  rw [List.getD_eq_getElem?_getD, List.getElem?_append_left h, ← List.getD_eq_getElem?_getD]
theorem ext_le (d : List UInt8) (m : Nat) (h : m ≤ d.length) : ext d m = d := by
  unfold ext; rw [show m - d.length = 0 by omega]; simp
def keepF (d : List UInt8) (more : List R) (f : Nat) (b : List UInt8) : List UInt8 := putN more f b (ext d (f + b.length)) b.length
theorem keepF_len (d : List UInt8) (more : List R) (f : Nat) (b : List UInt8) : (keepF d more f b).length = max d.length (f + b.length) := by
  unfold keepF; rw [putN_len, ext_len]
theorem keepF_at (d : List UInt8) (more : List R) (f : Nat) (b : List UInt8) (p : Nat) (hp : p < d.length ∨ f ≤ p) : (keepF d more f b).getD p default = if f ≤ p ∧ p < f + b.length ∧ innB more (p : Int) = false then b.getD (p - f) default else (ext d (f + b.length)).getD p default := by
  unfold keepF
  rw [putN_at more f b _ _ p (by rw [ext_len]; omega)]
/-- what an arrival comes to: the error's number, and how who hears then is -/
def arrF (h : He) (f : Int) (b : List UInt8) (fin : Bool) : Int × He :=
  if max f h.done < min (f + b.length) (h.taken + h.room) then
    if 16 < (add h.done h.more (max f h.done, min (f + b.length) (h.taken + h.room))).2.length then (9, h)
    else (0, ⟨h.room, keepF h.data h.more (max f h.done).toNat ((b.drop (max f h.done - f).toNat).take (min (f + b.length) (h.taken + h.room) - max f h.done).toNat),
      (add h.done h.more (max f h.done, min (f + b.length) (h.taken + h.room))).1, (add h.done h.more (max f h.done, min (f + b.length) (h.taken + h.room))).2, h.taken, if fin then f + b.length else h.end_⟩)
  else (0, ⟨h.room, h.data, h.done, h.more, h.taken, if fin then f + b.length else h.end_⟩)
def told (h : He) (code last : Int) (data : List UInt8) (fin : Bool) : To := ⟨code, if h.done = h.end_ then h.done + 1 else h.done, h.taken + h.room - h.done, sacks last h.more 3, data, fin⟩
def takeF (h : He) (n : Int) : List UInt8 × He := ((h.data.drop h.taken.toNat).take (min n (h.done - h.taken)).toNat, ⟨h.room, h.data, h.done, h.more, h.taken + min n (h.done - h.taken), h.end_⟩)
def doF (h : He) : Ar → He × To
  | .arr f b fin => ((arrF h f b fin).2, told (arrF h f b fin).2 (arrF h f b fin).1 f [] false)
  | .take n => ((takeF h n).2, told (takeF h n).2 0 (-1) (takeF h n).1 (decide ((takeF h n).2.taken = (takeF h n).2.end_)))
structure HOk (h : He) : Prop where
  may : May h.done h.more
  t0 : 0 ≤ h.taken
  t1 : h.taken ≤ h.done
  r0 : 1 ≤ h.room
  r1 : h.room ≤ 4096
  win : last h.done h.more ≤ h.taken + h.room
  dat : last h.done h.more ≤ h.data.length
  cap : (h.data.length : Int) ≤ 30000
def AOk (h : He) : Ar → Prop
  | .arr f b fin => 0 ≤ f ∧ f + b.length ≤ 30000 ∧ b.length ≤ 64 ∧ ¬ (0 ≤ h.end_ ∧ (h.end_ < f + b.length ∨ fin = true ∧ ¬ f + b.length = h.end_)) ∧ ¬ (fin = true ∧ f + b.length < last h.done h.more)
  | .take n => 0 ≤ n ∧ n ≤ 4096
theorem HOk.dle {h : He} (k : HOk h) : h.done ≤ last h.done h.more := chain_le _ _ k.may.ch
theorem HOk.arr {h : He} (k : HOk h) {f : Int} {b : List UInt8} {fin : Bool} (ha : AOk h (.arr f b fin)) : HOk (arrF h f b fin).2 := by
  obtain ⟨a1, a2, a3, a4, a5⟩ := ha
  have hd := k.dle
  have hA := added h.done h.more (max f h.done, min (f + b.length) (h.taken + h.room)) k.may.ch
  unfold arrF
  have k2 := k.t0
  have k3 := k.t1
  have kw := k.win
  have kd := k.dat
  have kc := k.cap
  have khi := k.may.hi
  have kd0 := k.may.d0
  split
  · rename_i hlt
    split
    · exact k
    · rename_i hf
      obtain ⟨c1, c2, c3, c4, c5, c6⟩ := hA
      simp only at c3
      have hle := chain_le _ _ c1
      refine ⟨⟨by simp only; omega, c1, by simp only; omega, by simp only; omega⟩, k2, by simp only; omega, k.r0, k.r1, by simp only; omega, ?_, ?_⟩
      · simp only [keepF_len, List.length_take, List.length_drop]
        omega
      · simp only [keepF_len, List.length_take, List.length_drop]
        omega
  · exact ⟨k.may, k.t0, k.t1, k.r0, k.r1, k.win, k.dat, k.cap⟩
theorem HOk.take {h : He} (k : HOk h) {n : Int} (ha : AOk h (.take n)) : HOk (takeF h n).2 := by
  obtain ⟨a1, a2⟩ := ha
  have k2 := k.t0
  have k3 := k.t1
  have kw := k.win
  exact ⟨k.may, by simp only [takeF]; omega, by simp only [takeF]; omega, k.r0, k.r1, by simp only [takeF]; omega, k.dat, k.cap⟩
theorem HOk.step {h : He} (k : HOk h) {a : Ar} (ha : AOk h a) : HOk (doF h a).1 := by
  cases a with
  | arr f b fin => exact k.arr ha
  | take n => exact k.take ha
def newF (room : Int) : He := ⟨room, [], 0, [], 0, -1⟩
theorem HOk.new {room : Int} (h : 1 ≤ room ∧ room ≤ 4096) : HOk (newF room) :=
  ⟨⟨by simp [newF], trivial, by simp [newF, last], by simp [newF]⟩, by simp [newF], by simp [newF], h.1, h.2, by simp [newF, last]; omega, by simp [newF, last], by simp [newF]⟩
/-- arrivals that may come, one behind the other; what is told -/
def runs : He → List Ar → List To
  | _, [] => []
  | h, a :: t => (doF h a).2 :: runs (doF h a).1 t
def ends : He → List Ar → He
  | h, [] => h
  | h, a :: t => ends (doF h a).1 t
def RunOk : He → List Ar → Prop
  | _, [] => True
  | h, a :: t => AOk h a ∧ RunOk (doF h a).1 t
end recv
end Go.Proofs.Ytcllddkhnbnigaa
/-
  WHO HEARS A STREAM, IN PLAIN LEAN: what is known is the stream's; what is told. No condition.
-/
namespace Go.Proofs.Ytcllddkhnbnigaa
set_option linter.unusedVariables false
set_option linter.unusedSimpArgs false

namespace recv
open hole
def ackOf (h : He) : Int := if h.done = h.end_ then h.done + 1 else h.done
/-- who hears has what the stream s has, as far as it knows -/
structure Tru (s : List UInt8) (cl : Bool) (h : He) : Prop where
  ok : HOk h
  hi : last h.done h.more ≤ s.length
  eq : ∀ p : Nat, knows h.done h.more (p : Int) → h.data.getD p default = s.getD p default
  en : h.end_ = -1 ∨ (cl = true ∧ h.end_ = s.length)
/-- an arrival of the stream -/
def OfS (s : List UInt8) (cl : Bool) : Ar → Prop
  | .arr f b fin => ∃ F E : Nat, f = (F : Int) ∧ F ≤ E ∧ E ≤ s.length ∧ E - F ≤ 64 ∧ b = (s.drop F).take (E - F) ∧ (fin = true → cl = true ∧ E = s.length)
  | .take n => 0 ≤ n ∧ n ≤ 4096
theorem OfS.len {s : List UInt8} {F E : Nat} (h : E ≤ s.length) : ((s.drop F).take (E - F)).length = E - F := by
  rw [List.length_take, List.length_drop]; omega
theorem Tru.aok {s : List UInt8} {cl : Bool} {h : He} (k : Tru s cl h) (hs : s.length ≤ 30000) {a : Ar} (ha : OfS s cl a) : AOk h a := by
  cases a with
  | take n => exact ha
  | arr f b fin =>
    obtain ⟨F, E, rfl, h1, h2, h3, rfl, h4⟩ := ha
    have hl := OfS.len (F := F) h2
    have hi := k.hi
    refine ⟨by omega, by rw [hl]; omega, by rw [hl]; omega, ?_, ?_⟩
    · rintro ⟨g1, g2⟩
      rcases k.en with g | ⟨_, g⟩
      · omega
      · rw [hl, g] at g2
        rcases g2 with g2 | ⟨g2, g3⟩
        · omega
        · have := (h4 g2).2; omega
    · rintro ⟨g1, g2⟩
      have := (h4 g1).2
      rw [hl] at g2; omega
theorem getD_cut (s : List UInt8) (a n i : Nat) (h : i < n) : ((s.drop a).take n).getD i default = s.getD (a + i) default := by
  rw [List.getD_eq_getElem?_getD, List.getElem?_take_of_lt h, List.getElem?_drop, ← List.getD_eq_getElem?_getD]
theorem keep_eq {s : List UInt8} {h : He} (hk : HOk h) (heq : ∀ p : Nat, knows h.done h.more (p : Int) → h.data.getD p default = s.getD p default) {F E : Nat} (hE : E ≤ s.length) (hFE : F ≤ E)
    {fr up : Nat} (h1 : (fr : Int) = max (F : Int) h.done) (h2 : up ≤ E) (hlt : fr < up) (p : Nat) (hp : knows h.done h.more (p : Int) ∨ (fr ≤ p ∧ p < up)) :
    (keepF h.data h.more fr ((((s.drop F).take (E - F)).drop (fr - F)).take (up - fr))).getD p default = s.getD p default := by
  have hd := hk.dat
  have hpl : ((((s.drop F).take (E - F)).drop (fr - F)).take (up - fr)).length = up - fr := by
    simp only [List.length_take, List.length_drop]; omega
  have hdl : ∀ q : Nat, knows h.done h.more (q : Int) → q < h.data.length := by
    intro q hq
    have hle := hk.dle
    rcases hq with hq | hq
    · omega
    · have := (inn_lt hk.may.ch hq).2; omega
  have hcase : p < h.data.length ∨ fr ≤ p := hp.elim (fun q => .inl (hdl p q)) (fun q => .inr q.1)
  rw [keepF_at _ _ _ _ p hcase, hpl]
  by_cases hin : fr ≤ p ∧ p < fr + (up - fr) ∧ innB h.more (p : Int) = false
  · rw [if_pos hin, getD_cut _ _ _ _ (by omega), getD_cut _ _ _ _ (by omega)]
    congr 1; omega
  · rw [if_neg hin]
    have hkn : knows h.done h.more (p : Int) := by
      rcases hp with q | ⟨q1, q2⟩
      · exact q
      · right
        rw [← innB_iff]
        cases e : innB h.more (p : Int) with
        | true => rfl
        | false => exact absurd ⟨q1, by omega, e⟩ hin
    rw [ext_at _ _ _ (hdl p hkn)]
    exact heq p hkn
theorem Tru.arr {s : List UInt8} {cl : Bool} {h : He} (k : Tru s cl h) (hs : s.length ≤ 30000) {f : Int} {b : List UInt8} {fin : Bool} (ha : OfS s cl (.arr f b fin)) : Tru s cl (arrF h f b fin).2 ∧ h.done ≤ (arrF h f b fin).2.done ∧ (arrF h f b fin).2.taken = h.taken ∧ (arrF h f b fin).2.room = h.room ∧ (h.end_ = s.length → (arrF h f b fin).2.end_ = s.length) ∧ ((arrF h f b fin).1 = 0 ∨ (arrF h f b fin).1 = 9) := by
  have hok := k.ok.arr (k.aok hs ha)
  have hk := k.ok
  have hd0 := hk.may.d0
  have hdle := hk.dle
  have ht0 := hk.t0
  have hr0 := hk.r0
  obtain ⟨F, E, rfl, h1, h2, h3, rfl, h4⟩ := ha
  have hl := OfS.len (F := F) h2
  have hto : (F : Int) + (((s.drop F).take (E - F)).length : Int) = (E : Int) := by rw [hl]; omega
  have hen : (if fin = true then (E : Int) else h.end_) = -1 ∨ (cl = true ∧ (if fin = true then (E : Int) else h.end_) = s.length) := by
    split
    · rename_i hf
      exact .inr ⟨(h4 hf).1, by rw [(h4 hf).2]⟩
    · exact k.en
  have hen2 : h.end_ = s.length → (if fin = true then (E : Int) else h.end_) = s.length := by
    intro e
    split
    · rename_i hf
      rw [(h4 hf).2]
    · exact e
  have hA := added h.done h.more (max (F : Int) h.done, min (F + ((s.drop F).take (E - F)).length) (h.taken + h.room)) hk.may.ch
  unfold arrF at hok ⊢
  rw [hto] at hok hA ⊢
  by_cases hlt : max (F : Int) h.done < min (E : Int) (h.taken + h.room)
  · rw [if_pos hlt] at hok ⊢
    by_cases hfull : 16 < (add h.done h.more (max (F : Int) h.done, min (E : Int) (h.taken + h.room))).2.length
    · rw [if_pos hfull]
      exact ⟨k, Int.le_refl _, rfl, rfl, fun e => e, .inr rfl⟩
    · rw [if_neg hfull] at hok ⊢
      refine ⟨⟨hok, ?_, ?_, hen⟩, hA.ge, rfl, rfl, hen2, .inl rfl⟩
      · have c3 := hA.hi
        have hi := k.hi
        simp only at c3 ⊢
        omega
      · intro p hp
        simp only at hp ⊢
        rw [hA.kn] at hp
        obtain ⟨fr, hfr⟩ : ∃ fr : Nat, max (F : Int) h.done = (fr : Int) := ⟨(max (F : Int) h.done).toNat, by omega⟩
        obtain ⟨up, hup⟩ : ∃ up : Nat, min (E : Int) (h.taken + h.room) = (up : Int) := ⟨(min (E : Int) (h.taken + h.room)).toNat, by omega⟩
        have := keep_eq (s := s) hk k.eq (F := F) (E := E) h2 h1 (fr := fr) (up := up) (by omega) (by omega) (by omega) p (by rw [hfr, hup] at hp; exact hp.imp id (fun q => ⟨by simp only at q; omega, by simp only at q; omega⟩))
        rw [hfr, hup, show (fr : Int).toNat = fr by omega, show ((fr : Int) - (F : Int)).toNat = fr - F by omega, show ((up : Int) - (fr : Int)).toNat = up - fr by omega]
        exact this
  · rw [if_neg hlt] at hok ⊢
    exact ⟨⟨hok, k.hi, k.eq, hen⟩, Int.le_refl _, rfl, rfl, hen2, .inl rfl⟩
theorem Tru.take {s : List UInt8} {cl : Bool} {h : He} (k : Tru s cl h) {n : Int} (ha : AOk h (.take n)) : Tru s cl (takeF h n).2 := ⟨k.ok.take ha, k.hi, k.eq, k.en⟩
theorem Tru.new {s : List UInt8} {cl : Bool} {room : Int} (h : 1 ≤ room ∧ room ≤ 4096) : Tru s cl (newF room) :=
  ⟨HOk.new h, by simp [newF, last], fun p hp => by
    rcases hp with hp | ⟨r, hr, _⟩
    · simp [newF] at hp; omega
    · simp [newF] at hr, .inl rfl⟩
theorem take_data {s : List UInt8} {cl : Bool} {h : He} (k : Tru s cl h) {n : Int} (ha : AOk h (.take n)) : ∃ T E : Nat, h.taken = (T : Int) ∧ (takeF h n).2.taken = (E : Int) ∧ T ≤ E ∧ E ≤ s.length ∧ (takeF h n).1 = (s.drop T).take (E - T) := by
  have t0 := k.ok.t0
  have t1 := k.ok.t1
  have dl := k.ok.dle
  have dd := k.ok.dat
  have hi := k.hi
  obtain ⟨n0, n1⟩ := ha
  obtain ⟨T, hT⟩ : ∃ T : Nat, h.taken = (T : Int) := ⟨h.taken.toNat, by omega⟩
  obtain ⟨E, hE⟩ : ∃ E : Nat, h.taken + min n (h.done - h.taken) = (E : Int) := ⟨(h.taken + min n (h.done - h.taken)).toNat, by omega⟩
  refine ⟨T, E, hT, hE, by omega, by omega, ?_⟩
  have e : (takeF h n).1 = (h.data.drop T).take (E - T) := by
    unfold takeF
    simp only
    rw [show h.taken.toNat = T by omega, show (min n (h.done - h.taken)).toNat = E - T by omega]
  rw [e]
  apply List.ext_getElem?
  intro i
  by_cases hi2 : i < E - T
  · rw [List.getElem?_take_of_lt hi2, List.getElem?_take_of_lt hi2, List.getElem?_drop, List.getElem?_drop]
    have := k.eq (T + i) (.inl (by omega))
    rw [List.getD_eq_getElem?_getD, List.getD_eq_getElem?_getD, List.getElem?_eq_getElem (show T + i < h.data.length by omega), List.getElem?_eq_getElem (show T + i < s.length by omega)] at this
    rw [List.getElem?_eq_getElem (show T + i < h.data.length by omega), List.getElem?_eq_getElem (show T + i < s.length by omega)]
    exact congrArg some this
  · rw [List.getElem?_take_eq_none (by omega), List.getElem?_take_eq_none (by omega)]
/-- what is told of a step -/
structure Said (s : List UInt8) (cl : Bool) (r : Int) (h : He) (t : To) (h' : He) : Prop where
  tru : Tru s cl h'
  room : h'.room = r
  code : t.code = 0 ∨ t.code = 9
  took : h'.taken = h.taken + t.data.length
  le : h'.taken ≤ s.length
  data : t.data = (s.drop h.taken.toNat).take t.data.length
  low : ackOf h ≤ t.ack
  ack : t.ack = ackOf h'
  hi : t.ack ≤ s.length + 1
  w0 : 0 ≤ t.window
  w1 : t.window ≤ r
  fin : t.fin = true → cl = true ∧ h'.taken = s.length
  win : t.window = h'.taken + r - min t.ack s.length
theorem Tru.ackle {s : List UInt8} {cl : Bool} {h : He} (k : Tru s cl h) : ackOf h ≤ s.length + 1 ∧ min (ackOf h) s.length = h.done := by
  have dl := k.ok.dle
  have hi := k.hi
  have d0 := k.ok.may.d0
  unfold ackOf
  rcases k.en with e | ⟨_, e⟩
  · rw [if_neg (by omega)]; omega
  · split <;> omega
theorem ack_mono {s : List UInt8} {cl : Bool} {h h' : He} (k : Tru s cl h) (k' : Tru s cl h') (hd : h.done ≤ h'.done) (he : h.end_ = s.length → h'.end_ = s.length) : ackOf h ≤ ackOf h' := by
  have dl := k'.ok.dle
  have hi := k'.hi
  have d0 := k.ok.may.d0
  unfold ackOf
  by_cases e : h.done = h.end_
  · have hs : h.end_ = s.length := by rcases k.en with g | ⟨_, g⟩ <;> omega
    have := he hs
    rw [if_pos e, if_pos (by omega)]; omega
  · rw [if_neg e]; split <;> omega
theorem Tru.step {s : List UInt8} {cl : Bool} {h : He} (k : Tru s cl h) (hs : s.length ≤ 30000) {a : Ar} (ha : OfS s cl a) : Said s cl h.room h (doF h a).2 (doF h a).1 := by
  have hao := k.aok hs ha
  cases a with
  | arr f b fin =>
    obtain ⟨k', hd, ht, hr, he, hc⟩ := k.arr hs ha
    obtain ⟨q1, q2⟩ := k'.ackle
    have t1 := k'.ok.t1
    have win := k'.ok.win
    have dle := k'.ok.dle
    have hi := k'.hi
    refine ⟨k', hr, hc, by rw [show (doF h (.arr f b fin)).1 = (arrF h f b fin).2 from rfl, ht]; simp [doF, told], by show (arrF h f b fin).2.taken ≤ _; omega, by simp [doF, told], ack_mono k k' hd he, rfl, q1, ?_, ?_, fun h => (nomatch h), ?_⟩
    · show 0 ≤ (arrF h f b fin).2.taken + (arrF h f b fin).2.room - (arrF h f b fin).2.done; omega
    · show (arrF h f b fin).2.taken + (arrF h f b fin).2.room - (arrF h f b fin).2.done ≤ h.room; omega
    · show (arrF h f b fin).2.taken + (arrF h f b fin).2.room - (arrF h f b fin).2.done = (arrF h f b fin).2.taken + h.room - min (ackOf (arrF h f b fin).2) s.length
      rw [q2, hr]
  | take n =>
    have k' := k.take hao
    obtain ⟨T, E, hT, hE, h1, h2, h3⟩ := take_data k hao
    obtain ⟨q1, q2⟩ := k'.ackle
    have t1 := k'.ok.t1
    have win := k'.ok.win
    have dle := k'.ok.dle
    have hl : (takeF h n).1.length = E - T := by rw [h3, List.length_take, List.length_drop]; omega
    refine ⟨k', rfl, .inl rfl, ?_, ?_, ?_, ack_mono k k' (Int.le_refl _) (fun e => e), rfl, q1, ?_, ?_, fun hf => ?_, ?_⟩
    · show (takeF h n).2.taken = h.taken + ((takeF h n).1.length : Int); rw [hl, hE, hT]; omega
    · show (takeF h n).2.taken ≤ _; omega
    · show (takeF h n).1 = _
      rw [show (doF h (.take n)).2.data = (takeF h n).1 from rfl, hl, hT]
      exact h3
    · show 0 ≤ (takeF h n).2.taken + h.room - h.done
      have : (takeF h n).2.room = h.room := rfl
      have : (takeF h n).2.done = h.done := rfl
      omega
    · show (takeF h n).2.taken + h.room - h.done ≤ h.room
      have : (takeF h n).2.done = h.done := rfl
      omega
    · have hf' : (takeF h n).2.taken = (takeF h n).2.end_ := of_decide_eq_true hf
      have t0 := k'.ok.t0
      rcases k'.en with g | ⟨g1, g2⟩
      · omega
      · exact ⟨g1, by rw [show (doF h (.take n)).1 = (takeF h n).2 from rfl]; omega⟩
    · show (takeF h n).2.taken + h.room - h.done = (takeF h n).2.taken + h.room - min (ackOf (takeF h n).2) s.length
      rw [q2]; rfl
end recv
end Go.Proofs.Ytcllddkhnbnigaa
/-
  WHO SENDS, IN PLAIN LEAN: what a deed does ('doF'), what is kept ('SOk'). No program in sight.
-/
namespace Go.Proofs.Ytcllddkhnbnigaa
set_option linter.unusedVariables false
set_option linter.unusedSimpArgs false

namespace send
open hole
structure Se where
  data : List UInt8
  closed : Bool
  done : Int
  more : List R
  next : Int
  again : Int
  edge : Int
inductive De where
  | submit (b : List UInt8)
  | heard (ack win : Int) (l : List R)
  | poll
  | timeout
  | close
structure St where
  code : Int
  from_ : Int
  data : List UInt8
  fin : Bool
  again : Bool
  idle : Bool
  left : Int
instance : Inhabited St := ⟨⟨0, 0, [], false, false, false, 0⟩⟩
instance : Inhabited De := ⟨.poll⟩
def Se.end_ (s : Se) : Int := if s.closed then s.data.length + 1 else s.data.length
def wide : List R → Int
  | [] => 0
  | r :: t => (r.2 - r.1) + wide t
def Se.left (s : Se) : Int := s.end_ - s.done - wide s.more
theorem wide_app : ∀ l m : List R, wide (l ++ m) = wide l + wide m
  | [], m => by simp [wide]
  | r :: t, m => by simp only [List.cons_append, wide, wide_app t m]; omega
theorem wide_bd : ∀ (l : List R) (d : Int), chain d l → 0 ≤ wide l ∧ wide l ≤ last d l - d
  | [], d, _ => by simp [wide, last]
  | r :: t, d, h => by
    have ih := wide_bd t r.2 h.2.2
    have h1 := h.1
    have h2 := h.2.1
    simp only [wide, last]
    omega
/-- one range looked at, from a place on -/
def hop (f : Int) (r : R) : Int := if r.1 ≤ f ∧ f < r.2 then r.2 else f
def hops (f : Int) (l : List R) : Int := l.foldl hop f
theorem hops_snoc (f : Int) (l : List R) (r : R) : hops f (l ++ [r]) = hop (hops f l) r := by unfold hops; rw [List.foldl_append]; rfl
def first (done : Int) (more : List R) (from_ to : Int) : Int := min (hops (max from_ done) more) to
/-- where the next range begins -/
def upto (at_ : Int) (more : List R) (to : Int) : Int := more.foldr (fun r t => if at_ < r.1 then r.1 else t) to
def odd (next : Int) (r : R) : Bool := decide (r.1 < 0) || decide (r.2 ≤ r.1) || decide (next < r.2)
def adds : Int × List R → List R → Option (Int × List R)
  | st, [] => some st
  | st, r :: t => if 16 < (add st.1 st.2 r).2.length then none else adds (add st.1 st.2 r) t
def submitF (s : Se) (b : List UInt8) : Int × Se :=
  if s.closed = true then (10, s) else if 4096 < b.length then (1, s) else if 1048576 ≤ s.data.length + b.length then (9, s) else (0, { s with data := s.data ++ b })
def heardF (s : Se) (ack win : Int) (l : List R) : Int × Se :=
  if ack < 0 ∨ s.next < ack ∨ win < 0 ∨ 65535 < win then (2, s)
  else if 3 < l.length then (1, s)
  else if l.any (odd s.next) = true then (2, s)
  else match adds (s.done, s.more) ((0, ack) :: l) with
    | none => (9, s)
    | some st => (0, { s with done := st.1, more := st.2, edge := max s.edge (ack + win) })
def timeoutF (s : Se) : Se :=
  if first s.done s.more s.done s.next = s.next ∧ s.next < s.end_ ∧ s.edge ≤ s.next then { s with again := s.done, edge := s.next + 1 } else { s with again := s.done }
/-- a piece: where it ends, and whether the end of all comes with it -/
def stop (s : Se) (from_ to : Int) : Int := min (min to s.data.length) (from_ + 64)
def pieceF (s : Se) (from_ to : Int) : List UInt8 := (s.data.drop from_.toNat).take (stop s from_ to - from_).toNat
def finF (s : Se) (from_ to : Int) : Bool := decide (stop s from_ to = s.data.length ∧ stop s from_ to < to)
def aftF (s : Se) (from_ to : Int) : Int := if finF s from_ to = true then stop s from_ to + 1 else stop s from_ to
def Se.at_ (s : Se) : Int := first s.done s.more s.again s.next
def Se.to1 (s : Se) : Int := upto s.at_ s.more s.next
def Se.to2 (s : Se) : Int := min s.end_ s.edge
def pollF (s : Se) : Se × St :=
  if s.at_ < s.next then ({ s with again := aftF s s.at_ s.to1 }, ⟨0, s.at_, pieceF s s.at_ s.to1, finF s s.at_ s.to1, true, false, s.left⟩)
  else if s.to2 ≤ s.next then (s, ⟨0, 0, [], false, false, true, s.left⟩)
  else ({ s with next := aftF s s.next s.to2, again := aftF s s.next s.to2 }, ⟨0, s.next, pieceF s s.next s.to2, finF s s.next s.to2, false, false, s.left⟩)
def plain (code : Int) (s : Se) : St := ⟨code, 0, [], false, false, false, s.left⟩
def doF (s : Se) : De → Se × St
  | .submit b => ((submitF s b).2, plain (submitF s b).1 (submitF s b).2)
  | .heard a w l => ((heardF s a w l).2, plain (heardF s a w l).1 (heardF s a w l).2)
  | .poll => pollF s
  | .timeout => (timeoutF s, plain 0 (timeoutF s))
  | .close => ({ s with closed := true }, plain (if s.closed = true then 10 else 0) { s with closed := true })
structure SOk (s : Se) : Prop where
  may : May s.done s.more
  la : last s.done s.more ≤ s.next
  ne : s.next ≤ s.end_
  a0 : 0 ≤ s.again
  a1 : s.again ≤ s.next
  e0 : 0 ≤ s.edge
  e1 : s.edge ≤ 2000000
  len : s.data.length < 1048576
theorem SOk.end1 {s : Se} (k : SOk s) : s.end_ ≤ 1048576 := by
  have := k.len
  unfold Se.end_
  split <;> omega
theorem SOk.dle {s : Se} (k : SOk s) : s.done ≤ last s.done s.more := chain_le _ _ k.may.ch
theorem hop_bd {f b : Int} {r : R} (h : r.2 ≤ b) (hf : f ≤ b) : f ≤ hop f r ∧ hop f r ≤ b := by
  unfold hop; split <;> omega
theorem hops_bd {b : Int} : ∀ (l : List R) (f : Int), (∀ r ∈ l, r.2 ≤ b) → f ≤ b → f ≤ hops f l ∧ hops f l ≤ b
  | [], f, _, h => ⟨Int.le_refl _, h⟩
  | r :: t, f, hl, h => by
    obtain ⟨h1, h2⟩ := hop_bd (hl r (by simp)) h
    obtain ⟨h3, h4⟩ := hops_bd t (hop f r) (fun q hq => hl q (List.mem_cons_of_mem _ hq)) h2
    exact ⟨Int.le_trans h1 h3, h4⟩
theorem upto_spec : ∀ (l : List R) (d a to : Int), chain d l → last d l ≤ to → a < to → a < upto a l to ∧ upto a l to ≤ to ∧ ((upto a l to = to ∧ ∀ r ∈ l, r.1 ≤ a) ∨ inn l (upto a l to)) ∧ (¬ inn l a → ∀ x, a ≤ x → x < upto a l to → ¬ inn l x)
  | [], d, a, to, _, _, h => ⟨h, Int.le_refl _, .inl ⟨rfl, by simp⟩, fun _ x _ _ => inn_nil x⟩
  | r :: t, d, a, to, hc, hl, h => by
    have hm := chain_mem t r.2 hc.2.2
    have hle := chain_le t r.2 hc.2.2
    have h1 := hc.1
    have h2 := hc.2.1
    have hl' : last r.2 t ≤ to := hl
    obtain ⟨i1, i2, i3, i4⟩ := upto_spec t r.2 a to hc.2.2 hl h
    have e : upto a (r :: t) to = if a < r.1 then r.1 else upto a t to := rfl
    rw [e]
    by_cases c : a < r.1
    · rw [if_pos c]
      refine ⟨c, by omega, .inr ((inn_cons r t _).2 (.inl ⟨Int.le_refl _, h2⟩)), fun hn x hx1 hx2 hi => ?_⟩
      rcases (inn_cons r t x).1 hi with k | k
      · omega
      · have := (inn_lt hc.2.2 k).1; omega
    · rw [if_neg c]
      refine ⟨i1, i2, ?_, fun hn x hx1 hx2 hi => ?_⟩
      · rcases i3 with ⟨k1, k2⟩ | k
        · exact .inl ⟨k1, fun q hq => (List.mem_cons.1 hq).elim (fun e => by subst e; omega) (k2 q)⟩
        · exact .inr ((inn_cons r t _).2 (.inr k))
      · rcases (inn_cons r t x).1 hi with k | k
        · exact hn ((inn_cons r t a).2 (.inl ⟨by omega, by omega⟩))
        · exact i4 (fun hk => hn ((inn_cons r t a).2 (.inr hk))) x hx1 hx2 k
theorem SOk.at1 {s : Se} (k : SOk s) : s.done ≤ s.at_ ∧ s.again ≤ s.at_ ∧ s.at_ ≤ s.next := by
  have h1 := k.dle
  have h2 := k.la
  have h3 := k.a1
  have hb := hops_bd (b := max s.again (last s.done s.more)) s.more (max s.again s.done) (fun r hr => by have := (chain_mem _ _ k.may.ch r hr).2.2; omega) (by omega)
  unfold Se.at_ first
  omega
theorem SOk.toA {s : Se} (k : SOk s) (h : s.at_ < s.next) : s.at_ < s.to1 ∧ s.to1 ≤ s.next := by
  obtain ⟨h1, h2, _⟩ := upto_spec s.more s.done s.at_ s.next k.may.ch k.la h
  exact ⟨h1, h2⟩
theorem SOk.len_end {s : Se} : s.end_ ≤ s.data.length + 1 ∧ (s.data.length : Int) ≤ s.end_ := by
  unfold Se.end_; split <;> omega
/-- a piece that may be sent -/
theorem aft_bd {s : Se} {a to : Int} (h0 : 0 ≤ a) (h1 : a < to) (h2 : to ≤ s.end_) : a < aftF s a to ∧ aftF s a to ≤ to ∧ a ≤ stop s a to ∧ stop s a to ≤ s.data.length ∧ stop s a to ≤ a + 64 := by
  have h := SOk.len_end (s := s)
  unfold aftF finF stop
  by_cases c : min (min to (s.data.length : Int)) (a + 64) = s.data.length ∧ min (min to (s.data.length : Int)) (a + 64) < to
  · rw [if_pos (decide_eq_true c)]; omega
  · rw [if_neg (by simpa using c)]; omega
theorem adds_ok (b : Int) : ∀ (l : List R) (st st' : Int × List R), adds st l = some st' → (∀ r ∈ l, 0 ≤ r.1 ∧ r.1 ≤ r.2 ∧ r.2 ≤ b) → b ≤ 1048576 → May st.1 st.2 → last st.1 st.2 ≤ b →
    May st'.1 st'.2 ∧ last st'.1 st'.2 ≤ b ∧ st.1 ≤ st'.1 ∧ ∀ x, knows st'.1 st'.2 x ↔ knows st.1 st.2 x ∨ inn l x
  | [], st, st', h, _, _, hm, hl => by
    obtain rfl := Option.some.inj h
    exact ⟨hm, hl, Int.le_refl _, fun x => ⟨.inl, fun h => h.elim id fun h => absurd h (inn_nil _)⟩⟩
  | r :: t, st, st', h, hr, hb, hm, hl => by
    have ha := added st.1 st.2 r hm.ch
    obtain ⟨r0, r1, r2⟩ := hr r (by simp)
    simp only [adds] at h
    split at h
    · exact nomatch h
    · rename_i c
      have hi := ha.hi
      have hge := ha.ge
      have hd0 := hm.d0
      have hh := hm.hi
      obtain ⟨i1, i2, i3, i4⟩ := adds_ok b t _ _ h (fun q hq => hr q (List.mem_cons_of_mem _ hq)) hb ⟨by omega, ha.ch, by omega, by omega⟩ (by omega)
      refine ⟨i1, i2, by omega, fun x => ?_⟩
      rw [i4, ha.kn, inn_cons, or_assoc]
theorem odd_no {n : Int} {l : List R} (h : ¬ l.any (odd n) = true) : ∀ r ∈ l, 0 ≤ r.1 ∧ r.1 < r.2 ∧ r.2 ≤ n := by
  intro r hr
  have h' : odd n r = false := by
    cases e : odd n r with
    | false => rfl
    | true => exact absurd (List.any_eq_true.2 ⟨r, hr, e⟩) h
  unfold odd at h'
  simp only [Bool.or_eq_false_iff, decide_eq_false_iff_not] at h'
  omega
theorem SOk.submit {s : Se} (k : SOk s) (b : List UInt8) : SOk (submitF s b).2 := by
  unfold submitF
  have hne := k.ne
  split
  · exact k
  · rename_i hc
    split
    · exact k
    · split
      · exact k
      · rename_i h1 h2
        refine ⟨k.may, k.la, ?_, k.a0, k.a1, k.e0, k.e1, by simp only [List.length_append]; omega⟩
        unfold Se.end_ at hne ⊢
        rw [if_neg hc] at hne ⊢
        simp only [List.length_append]
        omega
structure Heard (s : Se) (ack win : Int) (l : List R) (s' : Se) : Prop where
  data : s'.data = s.data
  closed : s'.closed = s.closed
  next : s'.next = s.next
  again : s'.again = s.again
  edge : s'.edge = max s.edge (ack + win)
  ak : 0 ≤ ack ∧ ack ≤ s.next ∧ 0 ≤ win ∧ win ≤ 65535
  len : l.length ≤ 3
  rs : ∀ r ∈ l, 0 ≤ r.1 ∧ r.1 < r.2 ∧ r.2 ≤ s.next
  may : May s'.done s'.more
  la : last s'.done s'.more ≤ s.next
  ge : s.done ≤ s'.done
  kn : ∀ x, knows s'.done s'.more x ↔ knows s.done s.more x ∨ (0 ≤ x ∧ x < ack) ∨ inn l x
theorem heard_spec {s : Se} (k : SOk s) (ack win : Int) (l : List R) : (heardF s ack win l).2 = s ∧ ¬ (heardF s ack win l).1 = 0 ∨ (heardF s ack win l).1 = 0 ∧ Heard s ack win l (heardF s ack win l).2 := by
  have he := k.end1
  have hn := k.ne
  unfold heardF
  split
  · exact .inl ⟨rfl, by simp⟩
  · rename_i h1
    split
    · exact .inl ⟨rfl, by simp⟩
    · rename_i h2
      split
      · exact .inl ⟨rfl, by simp⟩
      · rename_i h3
        have hr := odd_no h3
        cases e : adds (s.done, s.more) ((0, ack) :: l) with
        | none => exact .inl ⟨rfl, by simp⟩
        | some st =>
          obtain ⟨i1, i2, i3, i4⟩ := adds_ok s.next ((0, ack) :: l) _ _ e (fun r hr' => by
            rcases List.mem_cons.1 hr' with rfl | hr'
            · simp only; omega
            · have := hr r hr'; omega) (by omega) k.may k.la
          exact .inr ⟨rfl, ⟨rfl, rfl, rfl, rfl, rfl, by omega, by omega, hr, i1, i2, i3, fun x => by
            rw [i4 x, inn_cons]⟩⟩
theorem SOk.heard {s : Se} (k : SOk s) (ack win : Int) (l : List R) : SOk (heardF s ack win l).2 := by
  have he := k.end1
  have hn := k.ne
  rcases heard_spec k ack win l with ⟨h, _⟩ | ⟨_, h⟩
  · rw [h]; exact k
  · have h1 := h.ak
    have h2 := k.e0
    have h3 := k.e1
    refine ⟨h.may, by rw [h.next]; exact h.la, ?_, by rw [h.again]; exact k.a0, by rw [h.again, h.next]; exact k.a1, by rw [h.edge]; omega, by rw [h.edge]; omega, by rw [h.data]; exact k.len⟩
    unfold Se.end_ at hn ⊢
    rw [h.next, h.data, h.closed]
    exact hn
theorem SOk.timeout {s : Se} (k : SOk s) : SOk (timeoutF s) := by
  have he := k.end1
  have hn := k.ne
  have h0 := k.may.d0
  have h1 := k.dle
  have h2 := k.la
  unfold timeoutF
  split
  · exact ⟨k.may, k.la, k.ne, h0, by simp only; omega, by simp only; omega, by simp only; omega, k.len⟩
  · exact ⟨k.may, k.la, k.ne, h0, by simp only; omega, k.e0, k.e1, k.len⟩
theorem SOk.close {s : Se} (k : SOk s) : SOk { s with closed := true } := by
  have hn := k.ne
  refine ⟨k.may, k.la, ?_, k.a0, k.a1, k.e0, k.e1, k.len⟩
  unfold Se.end_ at hn ⊢
  simp only [if_pos]
  split at hn <;> omega
theorem SOk.poll {s : Se} (k : SOk s) : SOk (pollF s).1 := by
  have hn := k.ne
  have h0 := k.may.d0
  have h1 := k.dle
  have h2 := k.la
  obtain ⟨g1, g2, g3⟩ := k.at1
  have ha := k.a0
  unfold pollF
  split
  · rename_i c
    obtain ⟨t1, t2⟩ := k.toA c
    obtain ⟨b1, b2, _⟩ := aft_bd (s := s) (a := s.at_) (to := s.to1) (by omega) t1 (by omega)
    exact ⟨k.may, k.la, k.ne, by simp only; omega, by simp only; omega, k.e0, k.e1, k.len⟩
  · split
    · exact k
    · rename_i c1 c2
      have ht : s.to2 ≤ s.end_ := by unfold Se.to2; omega
      obtain ⟨b1, b2, _⟩ := aft_bd (s := s) (a := s.next) (to := s.to2) (by omega) (by omega) ht
      refine ⟨k.may, by simp only; omega, ?_, by simp only; omega, by simp only; omega, k.e0, k.e1, k.len⟩
      show aftF s s.next s.to2 ≤ s.end_
      omega
theorem SOk.step {s : Se} (k : SOk s) (d : De) : SOk (doF s d).1 := by
  cases d with
  | submit b => exact k.submit b
  | heard a w l => exact k.heard a w l
  | poll => exact k.poll
  | timeout => exact k.timeout
  | close => exact k.close
def newF (window : Int) : Se := ⟨[], false, 0, [], 0, 0, window⟩
theorem SOk.new {w : Int} (h : 0 ≤ w ∧ w ≤ 65535) : SOk (newF w) :=
  ⟨⟨by simp [newF], trivial, by simp [newF, last], by simp [newF]⟩, by simp [newF, last], by simp [newF, Se.end_], by simp [newF], by simp [newF], h.1, by simp only [newF]; omega, by simp [newF]⟩
def runs : Se → List De → List St
  | _, [] => []
  | h, a :: t => (doF h a).2 :: runs (doF h a).1 t
def ends : Se → List De → Se
  | h, [] => h
  | h, a :: t => ends (doF h a).1 t
end send
end Go.Proofs.Ytcllddkhnbnigaa
/-
  PLAIN LAW of inet's folds, over bytes: sums of pairs, what stands where, turned round, one changed. No program in sight.
-/
namespace Go.Proofs.Ytcllddkhnbnigaa
open Go.RowKit
set_option linter.unusedVariables false

theorem flat_cut {α : Type} {enc : α → List Value} {s : Nat} (h : Enc enc s) (l : List α) (a b : Nat) : ((flat enc l).drop (a * s)).take ((b - a) * s) = flat enc ((l.drop a).take (b - a)) := by
  rw [flat_drop h, flat_take h]
/-- a number's last byte -/
def byteZ (v : Int) : UInt8 := UInt8.ofNat (v % 256).toNat
theorem byteZ_toNat (v : Int) : ((byteZ v).toNat : Int) = v % 256 := by
  have h : (v % 256).toNat < 256 := by omega
  unfold byteZ
  rw [UInt8.toNat_ofNat_of_lt' (by simpa using h)]
  omega

namespace inet
def ofold (n : Int) : Int := if n ≤ 0 then 0 else (n - 1) % 65535 + 1
theorem ofold_le (n : Int) (h0 : 0 ≤ n) (h : n ≤ 65535) : ofold n = n := by unfold ofold; split <;> omega
theorem ofold_step (n : Int) (h : 65535 < n) : ofold (n / 65536 + n % 65536) = ofold n := by
  unfold ofold; rw [if_neg (by omega), if_neg (by omega)]; omega
theorem ofold_bd (n : Int) (h : 0 ≤ n) : 0 ≤ ofold n ∧ ofold n ≤ 65535 := by unfold ofold; split <;> omega
def ws : Bool → List UInt8 → Int
  | _, [] => 0
  | false, a :: t => (a.toNat : Int) * 256 + ws true t
  | true, a :: t => (a.toNat : Int) + ws false t
theorem ws_bd (l : List UInt8) : ∀ o, 0 ≤ ws o l ∧ ws o l ≤ 65280 * l.length := by
  induction l with
  | nil => intro o; cases o <;> simp [ws]
  | cons a t ih =>
    have ha := UInt8.toNat_lt a
    intro o
    cases o
    · have := ih true; simp only [ws, List.length_cons]; omega
    · have := ih false; simp only [ws, List.length_cons]; omega
theorem ws_append (l m : List UInt8) : ∀ o, ws o (l ++ m) = ws o l + ws (if l.length % 2 = 1 then !o else o) m := by
  induction l with
  | nil => intro o; cases o <;> simp [ws]
  | cons a t ih =>
    intro o
    have e : ∀ p : Bool, (if (t.length + 1) % 2 = 1 then !p else p) = (if t.length % 2 = 1 then !(!p) else !p) := by
      intro p
      by_cases h : t.length % 2 = 1
      · rw [if_neg (by omega), if_pos h]; simp
      · rw [if_pos (by omega), if_neg h]
    cases o
    · show _ + ws true (t ++ m) = _ + ws true t + _
      rw [ih true, List.length_cons, e false]; simp only [Bool.not_false]; omega
    · show _ + ws false (t ++ m) = _ + ws false t + _
      rw [ih false, List.length_cons, e true]; simp only [Bool.not_true]; omega
theorem take_get (l : List UInt8) (k : Nat) (hk : k < l.length) : l.take (k + 1) = l.take k ++ [l.getD k default] := by
  rw [List.take_succ_eq_append_getElem hk, List.getD_eq_getElem?_getD, List.getElem?_eq_getElem hk]; rfl
theorem ws_take (l : List UInt8) (k : Nat) (hk : k < l.length) : ws false (l.take (k + 1)) = ws false (l.take k) + (if k % 2 = 0 then ((l.getD k default).toNat : Int) * 256 else ((l.getD k default).toNat : Int)) := by
  rw [take_get l k hk, ws_append, List.length_take, Nat.min_eq_left (by omega)]
  by_cases h : k % 2 = 0
  · rw [if_neg (by omega), if_pos h]; simp [ws]
  · rw [if_pos (by omega), if_neg h]; simp [ws]
/-- sums -/
def S (f : Nat → Int) : Nat → Int
  | 0 => 0
  | n + 1 => S f n + f n
/-- the number at a place -/
def pr (l : List UInt8) (i : Nat) : Int := ((l.getD (2 * i) default).toNat : Int) * 256 + ((l.getD (2 * i + 1) default).toNat : Int)
end inet
end Go.Proofs.Ytcllddkhnbnigaa
/-
  PLAIN MODEL of package seg: a segment's bytes, and what is read of bytes. No program in sight.
-/
namespace Go.Proofs.Ytcllddkhnbnigaa
open Go.RowKit
set_option linter.unusedVariables false
set_option linter.unusedSimpArgs false

namespace seg
abbrev R := Int × Int
structure Sg where
  q : Int
  a : Int
  w : Int
  f : Nat
  sk : List R
  d : List UInt8
instance : Inhabited Sg := ⟨⟨0, 0, 0, 0, [], []⟩⟩
def bt (f i : Nat) : Bool := decide (f / 2 ^ i % 2 = 1)
structure Rng (s : Sg) : Prop where
  q : 0 ≤ s.q ∧ s.q < 65536
  a : 0 ≤ s.a ∧ s.a < 65536
  w : 0 ≤ s.w ∧ s.w < 65536
  f : s.f < 16
  sk : ∀ r ∈ s.sk, (0 ≤ r.1 ∧ r.1 < 65536) ∧ 0 ≤ r.2 ∧ r.2 < 65536
def flt (s : Sg) : Int := if 3 < s.sk.length ∨ 64 < s.d.length then 1 else if bt s.f 3 = false ∧ (s.a ≠ 0 ∨ s.w ≠ 0 ∨ s.sk ≠ []) then 4 else 0
def w16 (n : Int) : List UInt8 := [byteZ (n / 256), byteZ n]
def rg (l : List R) : List UInt8 := l.flatMap fun r => w16 r.1 ++ w16 r.2
def body (s : Sg) : List UInt8 := w16 s.q ++ w16 s.a ++ w16 s.w ++ [byteZ s.f, byteZ s.sk.length] ++ w16 0 ++ rg s.sk ++ s.d
def sum (l : List UInt8) : Int := 65535 - inet.ofold (inet.ws false l)
def enc (s : Sg) : List UInt8 := ((body s).set 8 (byteZ (sum (body s) / 256))).set 9 (byteZ (sum (body s)))
def wd (l : List UInt8) (i : Nat) : Int := ((l.getD i default).toNat : Int) * 256 + ((l.getD (i + 1) default).toNat : Int)
def blank (l : List UInt8) : List UInt8 := (l.set 8 0).set 9 0
def dat (l : List UInt8) : Nat := 10 + 4 * (l.getD 7 default).toNat
def rgs (l : List UInt8) (k : Nat) : List R := (List.range k).map fun i => (wd l (10 + 4 * i), wd l (10 + 4 * i + 2))
def parse (l : List UInt8) : Sg := ⟨wd l 0, wd l 2, wd l 4, (l.getD 6 default).toNat, rgs l (l.getD 7 default).toNat, l.drop (dat l)⟩
def dec (l : List UInt8) : Int × Sg :=
  if l.length < 10 then (5, default) else if ¬ sum (blank l) = wd l 8 then (6, default)
  else if 16 ≤ (l.getD 6 default).toNat ∨ l.length < dat l then (4, default) else if ¬ flt (parse l) = 0 then (4, default) else (0, parse l)
theorem sum_bd (l : List UInt8) : 0 ≤ sum l ∧ sum l ≤ 65535 := by
  have := inet.ofold_bd _ (inet.ws_bd l false).1
  unfold sum; omega
theorem wd_bd (l : List UInt8) (i : Nat) : 0 ≤ wd l i ∧ wd l i < 65536 := by
  have := UInt8.toNat_lt (l.getD i default)
  have := UInt8.toNat_lt (l.getD (i + 1) default)
  unfold wd; omega
theorem wd_w16 (n : Int) (h : 0 ≤ n ∧ n < 65536) : ((byteZ (n / 256)).toNat : Int) * 256 + ((byteZ n).toNat : Int) = n := by
  rw [byteZ_toNat, byteZ_toNat]; omega
theorem enc_eq (s : Sg) : enc s = byteZ (s.q / 256) :: byteZ s.q :: byteZ (s.a / 256) :: byteZ s.a :: byteZ (s.w / 256) :: byteZ s.w :: byteZ s.f :: byteZ s.sk.length :: byteZ (sum (body s) / 256) :: byteZ (sum (body s)) :: (rg s.sk ++ s.d) := by
  unfold enc
  generalize sum (body s) = z
  rfl
theorem blank_enc (s : Sg) : blank (enc s) = body s := by rw [enc_eq]; rfl
theorem rg_len (l : List R) : (rg l).length = 4 * l.length := by
  induction l with
  | nil => rfl
  | cons r l ih => simp only [rg, List.flatMap_cons, List.length_append, w16, List.length_cons, List.length_nil] at ih ⊢; omega
theorem body_len (s : Sg) : (body s).length = 10 + 4 * s.sk.length + s.d.length := by
  unfold body
  simp only [List.length_append, rg_len, w16, List.length_cons, List.length_nil]
theorem enc_len (s : Sg) : (enc s).length = 10 + 4 * s.sk.length + s.d.length := by
  unfold enc; rw [List.length_set, List.length_set, body_len]
theorem rg_at : ∀ (l : List R) (d : List UInt8) (i : Nat), (∀ r ∈ l, (0 ≤ r.1 ∧ r.1 < 65536) ∧ 0 ≤ r.2 ∧ r.2 < 65536) → i < l.length → (wd (rg l ++ d) (4 * i), wd (rg l ++ d) (4 * i + 2)) = l.getD i default
  | [], d, i, _, h => by simp at h
  | r :: l, d, 0, h, _ => by
    have h0 := h r (by simp)
    have e : rg (r :: l) ++ d = byteZ (r.1 / 256) :: byteZ r.1 :: byteZ (r.2 / 256) :: byteZ r.2 :: (rg l ++ d) := rfl
    rw [e]
    show (((byteZ (r.1 / 256)).toNat : Int) * 256 + ((byteZ r.1).toNat : Int), ((byteZ (r.2 / 256)).toNat : Int) * 256 + ((byteZ r.2).toNat : Int)) = r
    rw [wd_w16 _ h0.1, wd_w16 _ h0.2]
  | r :: l, d, i + 1, h, hi => by
    have e : rg (r :: l) ++ d = byteZ (r.1 / 256) :: byteZ r.1 :: byteZ (r.2 / 256) :: byteZ r.2 :: (rg l ++ d) := rfl
    have := rg_at l d i (fun r hr => h r (by simp [hr])) (by simpa using hi)
    rw [e, List.getD_cons_succ, ← this]
    unfold wd
    rw [show 4 * (i + 1) = 4 * i + 1 + 1 + 1 + 1 by omega, show 4 * i + 1 + 1 + 1 + 1 + 2 = 4 * i + 2 + 1 + 1 + 1 + 1 by omega]
    simp only [List.getD_cons_succ]
theorem dec_enc {s : Sg} (h : Rng s) (h0 : flt s = 0) : dec (enc s) = (0, s) := by
  have hl := enc_len s
  have h3 : s.sk.length ≤ 3 := by
    unfold flt at h0
    by_cases h : 3 < s.sk.length ∨ 64 < s.d.length
    · rw [if_pos h] at h0; omega
    · omega
  have hs := sum_bd (body s)
  have b6 : ((enc s).getD 6 default).toNat = s.f := by
    rw [enc_eq]
    show (byteZ (s.f : Int)).toNat = s.f
    have := byteZ_toNat (s.f : Int)
    have := h.f
    omega
  have b7 : ((enc s).getD 7 default).toNat = s.sk.length := by
    rw [enc_eq]
    show (byteZ (s.sk.length : Int)).toNat = s.sk.length
    have := byteZ_toNat (s.sk.length : Int)
    omega
  have hp : parse (enc s) = s := by
    have e0 : wd (enc s) 0 = s.q := by rw [enc_eq]; exact wd_w16 _ h.q
    have e2 : wd (enc s) 2 = s.a := by rw [enc_eq]; exact wd_w16 _ h.a
    have e4 : wd (enc s) 4 = s.w := by rw [enc_eq]; exact wd_w16 _ h.w
    have ed : (enc s).drop (10 + 4 * s.sk.length) = s.d := by
      rw [enc_eq, show 10 + 4 * s.sk.length = (rg s.sk).length + 1 + 1 + 1 + 1 + 1 + 1 + 1 + 1 + 1 + 1 by rw [rg_len]; omega]
      simp only [List.drop_succ_cons, List.drop_left]
    have er : rgs (enc s) s.sk.length = s.sk := by
      apply List.ext_getElem (by simp [rgs])
      intro i h1 h2
      have := rg_at s.sk s.d i h.sk h2
      rw [List.getD_eq_getElem?_getD, List.getElem?_eq_getElem h2] at this
      simp only [Option.getD_some] at this
      rw [← this]
      simp only [rgs, List.getElem_map, List.getElem_range]
      unfold wd
      rw [enc_eq, show 10 + 4 * i = 4 * i + 1 + 1 + 1 + 1 + 1 + 1 + 1 + 1 + 1 + 1 by omega, show 4 * i + 1 + 1 + 1 + 1 + 1 + 1 + 1 + 1 + 1 + 1 + 2 = 4 * i + 2 + 1 + 1 + 1 + 1 + 1 + 1 + 1 + 1 + 1 + 1 by omega]
      simp only [List.getD_cons_succ]
    unfold parse dat
    rw [e0, e2, e4, b6, b7, ed, er]
  have e8 : wd (enc s) 8 = sum (body s) := by rw [enc_eq]; exact wd_w16 _ ⟨hs.1, by omega⟩
  have hd : dat (enc s) = 10 + 4 * s.sk.length := by unfold dat; rw [b7]
  have hf := h.f
  unfold dec
  rw [if_neg (by omega), blank_enc, e8, if_neg (by simp), b6, hd, if_neg (by omega), hp, if_neg (by simp [h0])]
theorem parse_rng {l : List UInt8} (h6 : (l.getD 6 default).toNat < 16) : Rng (parse l) := by
  refine ⟨wd_bd _ _, wd_bd _ _, wd_bd _ _, h6, fun r hr => ?_⟩
  obtain ⟨i, _, rfl⟩ := List.mem_map.1 hr
  exact ⟨wd_bd _ _, wd_bd _ _⟩
theorem ws_one : ∀ (l : List UInt8) (p : Nat) (v : UInt8) (o : Bool), p < l.length → ∃ k : Int, (k = 1 ∨ k = 256) ∧ inet.ws o (l.set p v) = inet.ws o l + k * ((v.toNat : Int) - ((l.getD p default).toNat : Int))
  | [], p, v, o, h => by simp at h
  | a :: l, 0, v, true, h => ⟨1, .inl rfl, by show (v.toNat : Int) + _ = (a.toNat : Int) + _ + 1 * ((v.toNat : Int) - (a.toNat : Int)); omega⟩
  | a :: l, 0, v, false, h => ⟨256, .inr rfl, by show (v.toNat : Int) * 256 + _ = (a.toNat : Int) * 256 + _ + 256 * ((v.toNat : Int) - (a.toNat : Int)); omega⟩
  | a :: l, p + 1, v, true, h => by
    obtain ⟨k, hk, e⟩ := ws_one l p v false (by simpa using h)
    refine ⟨k, hk, ?_⟩
    rw [List.getD_cons_succ]
    show (a.toNat : Int) + inet.ws false (l.set p v) = (a.toNat : Int) + inet.ws false l + _
    rw [e]; omega
  | a :: l, p + 1, v, false, h => by
    obtain ⟨k, hk, e⟩ := ws_one l p v true (by simpa using h)
    refine ⟨k, hk, ?_⟩
    rw [List.getD_cons_succ]
    show (a.toNat : Int) * 256 + inet.ws true (l.set p v) = (a.toNat : Int) * 256 + inet.ws true l + _
    rw [e]; omega
theorem sum_one {l : List UInt8} {p : Nat} {v : UInt8} (h : p < l.length) (hv : v ≠ l.getD p default) : sum (l.set p v) ≠ sum l := by
  obtain ⟨k, hk, e⟩ := ws_one l p v false h
  have h1 := UInt8.toNat_lt v
  have h2 := UInt8.toNat_lt (l.getD p default)
  have h3 : (v.toNat : Int) ≠ ((l.getD p default).toNat : Int) := fun e => hv (UInt8.toNat_inj.1 (by omega))
  have n1 := (inet.ws_bd l false).1
  have n2 := (inet.ws_bd (l.set p v) false).1
  unfold sum inet.ofold
  generalize inet.ws false (l.set p v) = A at *
  generalize inet.ws false l = B at *
  rcases hk with rfl | rfl
  · split <;> split <;> omega
  · split <;> split <;> omega
theorem getD_set {l : List UInt8} {p i : Nat} {v : UInt8} (h : p < l.length) : (l.set p v).getD i default = if i = p then v else l.getD i default := by
  rw [List.getD_eq_getElem?_getD, List.getD_eq_getElem?_getD, List.getElem?_set]
  by_cases e : i = p
  · subst e; rw [if_pos rfl, if_pos rfl, if_pos h]; rfl
  · rw [if_neg (Ne.symm e), if_neg e]
theorem dec_seen {s : Sg} {p : Nat} {v : UInt8} (hp : p < (enc s).length) (hv : v ≠ (enc s).getD p default) : dec ((enc s).set p v) = (6, default) := by
  have hl := enc_len s
  have hs := sum_bd (body s)
  have e8 : wd (enc s) 8 = sum (body s) := by rw [enc_eq]; exact wd_w16 _ ⟨hs.1, by omega⟩
  have key : ¬ sum (blank ((enc s).set p v)) = wd ((enc s).set p v) 8 := by
    have c8 : blank ((enc s).set p v) = if p = 8 ∨ p = 9 then body s else (body s).set p v := by
      rw [← blank_enc]
      unfold blank
      by_cases h : p = 8 ∨ p = 9
      · rw [if_pos h]
        rcases h with rfl | rfl
        · rw [List.set_set]
        · rw [List.set_comm _ _ (by decide : (9 : Nat) ≠ 8), List.set_set]
      · rw [if_neg h, List.set_comm _ _ (by omega : p ≠ 8), List.set_comm _ _ (by omega : p ≠ 9)]
    have cw : wd ((enc s).set p v) 8 = ((if 8 = p then v else (enc s).getD 8 default).toNat : Int) * 256 + ((if 9 = p then v else (enc s).getD 9 default).toNat : Int) := by
      unfold wd; rw [getD_set hp, getD_set hp]
    rw [c8, cw]
    have h8 := UInt8.toNat_lt ((enc s).getD 8 default)
    have h9 := UInt8.toNat_lt ((enc s).getD 9 default)
    have hv2 := UInt8.toNat_lt v
    have hne : v.toNat ≠ ((enc s).getD p default).toNat := fun e => hv (UInt8.toNat_inj.1 e)
    have e8' : ((enc s).getD 8 default).toNat * (256 : Int) + ((enc s).getD 9 default).toNat = sum (body s) := e8
    by_cases h : p = 8 ∨ p = 9
    · rw [if_pos h]
      rcases h with rfl | rfl
      · rw [if_pos rfl, if_neg (by decide)]; omega
      · rw [if_neg (by decide), if_pos rfl]; omega
    · rw [if_neg h, if_neg (by omega), if_neg (by omega), e8']
      refine sum_one (by rw [body_len]; omega) ?_
      have : (body s).getD p default = (enc s).getD p default := by
        rw [← blank_enc]
        unfold blank
        rw [getD_set (by rw [List.length_set]; omega), getD_set (by omega), if_neg (by omega), if_neg (by omega)]
      rw [this]; exact hv
  unfold dec
  rw [List.length_set, if_neg (by omega), if_pos key]
end seg
end Go.Proofs.Ytcllddkhnbnigaa
/-
  THE WIRE, IN PLAIN LEAN: what a hop does ('doF'), what is kept ('WOk'). No program in sight.
-/
namespace Go.Proofs.Ytcllddkhnbnigaa
set_option linter.unusedVariables false
set_option linter.unusedSimpArgs false
namespace pipe
open hole
/-- a frame on its way -/
structure Fr where
  bytes : List UInt8
  back : Bool
  hit : Bool
instance : Inhabited Fr := ⟨⟨[], false, false⟩⟩
structure Wi where
  first : Int
  se : send.Se
  he : recv.He
  fs : List Fr
/-- what a hop came to -/
structure Pa where
  code : Int
  put : Bool
  id : Int
  data : List UInt8
  fin : Bool
  left : Int
instance : Inhabited Pa := ⟨⟨0, false, 0, [], false, 0⟩⟩
def no (e : Int) : Pa := ⟨e, false, 0, [], false, 0⟩
inductive Ho where
  | give (b : List UInt8)
  | shut
  | send
  | hit (id at_ : Int) (by_ : UInt8)
  | carry (id : Int)
  | back (id : Int)
  | expire
  | drain (n : Int)
instance : Inhabited Ho := ⟨.shut⟩
def near (s p : Int) : Int := if 32768 ≤ (s - p % 65536 + 65536) % 65536 then p + ((s - p % 65536 + 65536) % 65536 - 65536) else p + (s - p % 65536 + 65536) % 65536
def mk (f p : Int) : Int := (f + p) % 65536
def pl (f s p : Int) : Int := near ((s - f + 65536) % 65536) p
/-- where a place is told by its serial, and who reads it is near, it is found -/
theorem pl_mk {f p q : Int} (hf : 0 ≤ f ∧ f < 65536) (hp : 0 ≤ p) (hq : 0 ≤ q) (h : -32768 ≤ p - q ∧ p - q < 32768) : pl f (mk f p) q = p := by
  unfold pl mk near
  split <;> omega
def segS (f : Int) (t : send.St) : seg.Sg := ⟨mk f t.from_, 0, 0, if t.fin then 2 else 0, [], t.data⟩
def mkR (f : Int) (r : R) : R := (mk f r.1, mk f r.2)
def segR (f : Int) (t : recv.To) : seg.Sg := ⟨0, mk f t.ack, t.window, 8, t.sacks.map (mkR f), []⟩
def Wi.put (w : Wi) (s : seg.Sg) (back : Bool) : Wi := { w with fs := w.fs ++ [⟨seg.enc s, back, false⟩] }
def ownF (w : Wi) (d : send.De) : Wi × Pa := ({ w with se := (send.doF w.se d).1 }, ⟨(send.doF w.se d).2.code, false, 0, [], false, (send.doF w.se d).2.left⟩)
def sendF (w : Wi) : Wi × Pa :=
  if (send.doF w.se .poll).2.idle = true then ({ w with se := (send.doF w.se .poll).1 }, no 7)
  else ({ w with se := (send.doF w.se .poll).1 }.put (segS w.first (send.doF w.se .poll).2) false, ⟨0, true, w.fs.length, [], false, (send.doF w.se .poll).2.left⟩)
def hitF (w : Wi) (id at_ : Int) (by_ : UInt8) : Wi × Pa :=
  if id < 0 ∨ (w.fs.length : Int) ≤ id then (w, no 7)
  else if at_ < 0 ∨ ((w.fs.getD id.toNat default).bytes.length : Int) ≤ at_ then (w, no 2)
  else if (w.fs.getD id.toNat default).hit = true then (w, no 8)
  else ({ w with fs := w.fs.set id.toNat ⟨(w.fs.getD id.toNat default).bytes.set at_.toNat ((w.fs.getD id.toNat default).bytes.getD at_.toNat default ^^^ by_), (w.fs.getD id.toNat default).back, true⟩ }, no 0)
def takenF (w : Wi) (id : Int) (back : Bool) : Int × seg.Sg :=
  if id < 0 ∨ (w.fs.length : Int) ≤ id ∨ ¬ (w.fs.getD id.toNat default).back = back then (7, default) else seg.dec (w.fs.getD id.toNat default).bytes
def replyF (w : Wi) (t : recv.To) : Wi × Pa :=
  if ¬ t.code = 0 then (w, no t.code) else (w.put (segR w.first t) true, ⟨0, true, w.fs.length, t.data, t.fin, 0⟩)
def carryF (w : Wi) (id : Int) : Wi × Pa :=
  if ¬ (takenF w id false).1 = 0 then (w, no (takenF w id false).1)
  else if pl w.first (takenF w id false).2.q w.he.done < 0 then (w, no 2)
  else replyF { w with he := (recv.doF w.he (.arr (pl w.first (takenF w id false).2.q w.he.done) (takenF w id false).2.d (seg.bt (takenF w id false).2.f 1))).1 } (recv.doF w.he (.arr (pl w.first (takenF w id false).2.q w.he.done) (takenF w id false).2.d (seg.bt (takenF w id false).2.f 1))).2
def plR (f q : Int) (r : R) : R := (pl f r.1 q, pl f r.2 q)
/-- what who sends is told by a segment -/
def heardD (f q : Int) (s : seg.Sg) : send.De := .heard (pl f s.a q) s.w (s.sk.map (plR f q))
def heardF (w : Wi) (id : Int) : Wi × Pa :=
  if ¬ (takenF w id true).1 = 0 then (w, no (takenF w id true).1)
  else if pl w.first (takenF w id true).2.a w.se.done < 0 ∨ ∃ r ∈ (takenF w id true).2.sk, pl w.first r.1 w.se.done < 0 ∨ pl w.first r.2 w.se.done < 0 then (w, no 2)
  else ({ w with se := (send.doF w.se (heardD w.first w.se.done (takenF w id true).2)).1 }, no (send.doF w.se (heardD w.first w.se.done (takenF w id true).2)).2.code)
def backF (w : Wi) (id : Int) : Wi × Pa := ((heardF w id).1, { (heardF w id).2 with left := (heardF w id).1.se.left })
def doF (w : Wi) : Ho → Wi × Pa
  | .give b => ownF w (.submit b)
  | .shut => ownF w .close
  | .send => sendF w
  | .hit id a b => hitF w id a b
  | .carry id => carryF w id
  | .back id => backF w id
  | .expire => ownF w .timeout
  | .drain n => replyF { w with he := (recv.doF w.he (.take n)).1 } (recv.doF w.he (.take n)).2
def runs : Wi → List Ho → List Pa
  | _, [] => []
  | w, h :: t => (doF w h).2 :: runs (doF w h).1 t
def ends : Wi → List Ho → Wi
  | w, [] => w
  | w, h :: t => ends (doF w h).1 t
theorem runs_len : ∀ (l : List Ho) (w : Wi), (runs w l).length = l.length
  | [], _ => rfl
  | a :: t, w => by simp [runs, runs_len t]
theorem runs_app : ∀ (l m : List Ho) (w : Wi), runs w (l ++ m) = runs w l ++ runs (ends w l) m
  | [], m, w => rfl
  | a :: t, m, w => by simp only [List.cons_append, runs, ends, runs_app t m]
theorem ends_app : ∀ (l m : List Ho) (w : Wi), ends w (l ++ m) = ends (ends w l) m
  | [], m, w => rfl
  | a :: t, m, w => by simp only [List.cons_append, ends, ends_app t m]
def newW (first room : Int) : Wi := ⟨first, send.newF room, recv.newF room, []⟩
/-- a segment that is a piece of what was given -/
structure Piece (w : Wi) (s : seg.Sg) (F E : Nat) : Prop where
  le : F ≤ E
  hi : E ≤ w.se.data.length
  n : E - F ≤ 64
  d : s.d = (w.se.data.drop F).take (E - F)
  q : s.q = mk w.first F
  fin : seg.bt s.f 1 = true → w.se.closed = true ∧ E = w.se.data.length
/-- a frame bears its segment, or was harmed in one byte -/
structure FOk (w : Wi) (f : Fr) (s : seg.Sg) : Prop where
  rng : seg.Rng s
  flt : seg.flt s = 0
  own : f.hit = false → f.bytes = seg.enc s
  was : f.bytes = seg.enc s ∨ seg.dec f.bytes = (6, default)
  len : f.bytes.length = (seg.enc s).length
  fwd : f.back = false → ∃ F E, Piece w s F E
structure WOk (w : Wi) (N : Nat) : Prop where
  f : 0 ≤ w.first ∧ w.first < 65536
  se : send.SOk w.se
  he : recv.Tru w.se.data w.se.closed w.he
  len : w.se.data.length ≤ N
  fs : ∀ f ∈ w.fs, ∃ s, FOk w f s
/-- what may become of who sends: more is given, unless it is closed -/
structure Grow (s s' : send.Se) : Prop where
  ex : ∃ b, s'.data = s.data ++ b ∧ (s.closed = true → b = [] ∧ s'.closed = true)
theorem Grow.same {s s' : send.Se} (h1 : s'.data = s.data) (h2 : s'.closed = s.closed) : Grow s s' := ⟨[], by rw [h1, List.append_nil], fun h => ⟨rfl, h2.trans h⟩⟩
theorem grow_do {s : send.Se} (k : send.SOk s) (d : send.De) : Grow s (send.doF s d).1 := by
  cases d with
  | submit b =>
    show Grow s (send.submitF s b).2
    unfold send.submitF
    split
    · exact .same rfl rfl
    · rename_i hc
      split
      · exact .same rfl rfl
      · split
        · exact .same rfl rfl
        · exact ⟨b, rfl, fun h => absurd h hc⟩
  | heard a w l =>
    show Grow s (send.heardF s a w l).2
    rcases send.heard_spec k a w l with ⟨h, _⟩ | ⟨_, h⟩
    · rw [h]; exact .same rfl rfl
    · exact .same h.data h.closed
  | poll =>
    show Grow s (send.pollF s).1
    unfold send.pollF
    split
    · exact .same rfl rfl
    · split
      · exact .same rfl rfl
      · exact .same rfl rfl
  | timeout =>
    show Grow s (send.timeoutF s)
    unfold send.timeoutF
    split <;> exact .same rfl rfl
  | close => exact ⟨[], (List.append_nil _).symm, fun _ => ⟨rfl, rfl⟩⟩
theorem Grow.tru {s s' : send.Se} (g : Grow s s') {h : recv.He} (k : recv.Tru s.data s.closed h) : recv.Tru s'.data s'.closed h := by
  obtain ⟨b, hb, hc⟩ := g.ex
  have hi := k.hi
  refine ⟨k.ok, by rw [hb, List.length_append]; omega, fun p hp => ?_, ?_⟩
  · have hlt : p < s.data.length := by
      have hd := k.ok.dle
      rcases hp with hp | hp
      · omega
      · have := (inn_lt k.ok.may.ch hp).2; omega
    rw [k.eq p hp, hb, List.getD_eq_getElem?_getD, List.getD_eq_getElem?_getD, List.getElem?_append_left hlt]
  · rcases k.en with e | ⟨e1, e2⟩
    · exact .inl e
    · obtain ⟨rfl, h2⟩ := hc e1
      exact .inr ⟨h2, by rw [hb, List.append_nil]; exact e2⟩
theorem Grow.piece {w w' : Wi} (hf : w'.first = w.first) (g : Grow w.se w'.se) {s : seg.Sg} {F E : Nat} (p : Piece w s F E) : Piece w' s F E := by
  obtain ⟨b, hb, hc⟩ := g.ex
  have hhi := p.hi
  have hle := p.le
  refine ⟨p.le, by rw [hb, List.length_append]; omega, p.n, ?_, by rw [hf]; exact p.q, fun h => ?_⟩
  · rw [p.d, hb, List.drop_append_of_le_length (by omega), List.take_append_of_le_length (by rw [List.length_drop]; omega)]
  · obtain ⟨h1, h2⟩ := p.fin h
    obtain ⟨rfl, h3⟩ := hc h1
    exact ⟨h3, by rw [hb, List.append_nil]; exact h2⟩
theorem Grow.fok {w w' : Wi} (hf : w'.first = w.first) (g : Grow w.se w'.se) {f : Fr} {s : seg.Sg} (k : FOk w f s) : FOk w' f s :=
  ⟨k.rng, k.flt, k.own, k.was, k.len, fun h => by obtain ⟨F, E, p⟩ := k.fwd h; exact ⟨F, E, g.piece hf p⟩⟩
theorem bt2 : seg.bt 2 1 = true ∧ seg.bt 0 1 = false ∧ seg.bt 8 3 = true ∧ seg.bt 2 3 = false ∧ seg.bt 0 3 = false := by decide
theorem mk_bd (f p : Int) : 0 ≤ mk f p ∧ mk f p < 65536 := by unfold mk; omega
/-- what is polled is a piece -/
theorem poll_piece {w : Wi} (k : send.SOk w.se) (hi : ¬ (send.doF w.se .poll).2.idle = true) : seg.Rng (segS w.first (send.doF w.se .poll).2) ∧ seg.flt (segS w.first (send.doF w.se .poll).2) = 0 ∧
    ∃ F E : Nat, (send.doF w.se .poll).2.from_ = (F : Int) ∧ Piece w (segS w.first (send.doF w.se .poll).2) F E := by
  have hx : ∃ a to, 0 ≤ a ∧ a < to ∧ to ≤ w.se.end_ ∧ (send.doF w.se .poll).2.from_ = a ∧ (send.doF w.se .poll).2.data = send.pieceF w.se a to ∧ (send.doF w.se .poll).2.fin = send.finF w.se a to := by
    have hd0 := k.may.d0
    have hat := k.at1
    have hne := k.ne
    have hla := k.la
    have hdl := k.dle
    show ∃ a to, 0 ≤ a ∧ a < to ∧ to ≤ w.se.end_ ∧ (send.pollF w.se).2.from_ = a ∧ (send.pollF w.se).2.data = send.pieceF w.se a to ∧ (send.pollF w.se).2.fin = send.finF w.se a to
    have hi' : ¬ (send.pollF w.se).2.idle = true := hi
    unfold send.pollF at hi' ⊢
    split at hi'
    · rename_i c
      rw [if_pos c]
      have := k.toA c
      exact ⟨w.se.at_, w.se.to1, by omega, by omega, by omega, rfl, rfl, rfl⟩
    · rename_i c
      split at hi'
      · exact absurd rfl hi'
      · rename_i c2
        rw [if_neg c, if_neg c2]
        have : w.se.to2 ≤ w.se.end_ := by unfold send.Se.to2; omega
        exact ⟨w.se.next, w.se.to2, by omega, by omega, this, rfl, rfl, rfl⟩
  obtain ⟨a, to, h0, h1, h2, e1, e2, e3⟩ := hx
  obtain ⟨q1, q2, q3, q4, q5⟩ := send.aft_bd h0 h1 h2
  have hmk := mk_bd w.first (send.doF w.se .poll).2.from_
  obtain ⟨F, rfl⟩ : ∃ F : Nat, a = (F : Int) := ⟨a.toNat, by omega⟩
  obtain ⟨E, hE⟩ : ∃ E : Nat, send.stop w.se F to = (E : Int) := ⟨(send.stop w.se F to).toNat, by omega⟩
  have hdat : (send.doF w.se .poll).2.data = (w.se.data.drop F).take (E - F) := by
    rw [e2]; unfold send.pieceF; rw [hE, show ((E : Int) - (F : Int)).toNat = E - F by omega]; rfl
  have hlen : (send.doF w.se .poll).2.data.length = E - F := by rw [hdat, List.length_take, List.length_drop]; omega
  refine ⟨⟨hmk, by simp [segS], by simp [segS], ?_, fun r hr => by simp [segS] at hr⟩, ?_, F, E, e1, ⟨by omega, by omega, by omega, hdat, by show mk w.first (send.doF w.se .poll).2.from_ = _; rw [e1], fun hb => ?_⟩⟩
  · show (if (send.doF w.se .poll).2.fin = true then 2 else 0) < 16
    split <;> omega
  · unfold seg.flt segS
    simp only [List.length_nil]
    rw [if_neg (by omega), if_neg (by simp)]
  · have hfin : send.finF w.se F to = true := by
      cases hc : send.finF w.se F to with
      | true => rfl
      | false =>
        have : seg.bt (if (send.doF w.se .poll).2.fin = true then 2 else 0) 1 = true := hb
        rw [e3, hc] at this
        exact absurd this (by decide)
    unfold send.finF at hfin
    have hf2 := of_decide_eq_true hfin
    refine ⟨?_, by omega⟩
    unfold send.Se.end_ at h2
    cases hc : w.se.closed with
    | true => rfl
    | false => rw [hc] at h2; simp at h2; omega
theorem xor0 (x : UInt8) : x ^^^ 0 = x := by
  apply UInt8.toNat_inj.1; rw [UInt8.toNat_xor]; simp
theorem xor_ne0 {x y : UInt8} (h : y ≠ 0) : x ^^^ y ≠ x := fun e => by
  apply h
  have : x ^^^ (x ^^^ y) = x ^^^ x := by rw [e]
  rw [← UInt8.xor_assoc, UInt8.xor_self, UInt8.zero_xor] at this
  exact this
theorem set_own {l : List UInt8} {p : Nat} (h : p < l.length) : l.set p (l.getD p default) = l := by
  apply List.ext_getElem?
  intro i
  rw [List.getElem?_set]
  split
  · rename_i e; subst e; simp [List.getD_eq_getElem?_getD, List.getElem?_eq_getElem h, h]
  · rfl
theorem getD_memF {l : List Fr} {i : Nat} (h : i < l.length) : l.getD i default ∈ l := by
  rw [List.getD_eq_getElem?_getD, List.getElem?_eq_getElem h]; exact List.getElem_mem h
theorem taken_ok {w : Wi} {N : Nat} (k : WOk w N) {id : Int} {back : Bool} (h : (takenF w id back).1 = 0) : ∃ f s, f ∈ w.fs ∧ FOk w f s ∧ f.back = back ∧ (takenF w id back).2 = s := by
  unfold takenF at h ⊢
  split at h
  · exact absurd (show (7 : Int) = 0 from h) (by decide)
  · rename_i c
    rw [if_neg c]
    have h1 : id.toNat < w.fs.length := by omega
    have hb : (w.fs.getD id.toNat default).back = back := by
      rcases Classical.em ((w.fs.getD id.toNat default).back = back) with e | e
      · exact e
      · exact absurd (.inr (.inr e)) c
    obtain ⟨s, hs⟩ := k.fs _ (getD_memF h1)
    refine ⟨_, s, getD_memF h1, hs, hb, ?_⟩
    rcases hs.was with e | e
    · rw [e, seg.dec_enc hs.rng hs.flt]
    · rw [e] at h; exact absurd (show (6 : Int) = 0 from h) (by decide)
def given : Ho → Nat
  | .give b => b.length
  | _ => 0
def HoOk : Ho → Prop
  | .drain n => 0 ≤ n ∧ n ≤ 4096
  | _ => True
theorem WOk.own {w : Wi} {N M : Nat} (k : WOk w N) (d : send.De) (hl : (send.doF w.se d).1.data.length ≤ M) : WOk (ownF w d).1 M := by
  have g := grow_do k.se d
  exact ⟨k.f, k.se.step d, g.tru k.he, hl, fun f hf => by obtain ⟨s, hs⟩ := k.fs f hf; exact ⟨s, Grow.fok (w := w) (w' := (ownF w d).1) rfl g hs⟩⟩
/-- a reply may be told as a segment -/
structure TOk (t : recv.To) : Prop where
  w : 0 ≤ t.window ∧ t.window < 65536
  n : t.sacks.length ≤ 3
theorem told_seg {f : Int} {t : recv.To} (k : TOk t) : seg.Rng (segR f t) ∧ seg.flt (segR f t) = 0 := by
  refine ⟨⟨by simp [segR], mk_bd _ _, k.w, by simp [segR], fun r hr => ?_⟩, ?_⟩
  · obtain ⟨x, _, rfl⟩ := List.mem_map.1 hr
    exact ⟨mk_bd _ _, mk_bd _ _⟩
  · have := k.n
    unfold seg.flt segR
    simp only [List.length_map, List.length_nil]
    rw [if_neg (by omega), if_neg (by rw [bt2.2.2.1]; simp)]
theorem WOk.reply {w : Wi} {N : Nat} (k : WOk w N) {t : recv.To} (ht : TOk t) : WOk (replyF w t).1 N := by
  unfold replyF
  split
  · exact k
  · refine ⟨k.f, k.se, k.he, k.len, fun f hf => ?_⟩
    rcases List.mem_append.1 hf with hf | hf
    · obtain ⟨s, hs⟩ := k.fs f hf
      exact ⟨s, Grow.fok (w := w) (w' := w.put (segR w.first t) true) rfl (.same rfl rfl) hs⟩
    · rw [List.mem_singleton] at hf
      subst hf
      obtain ⟨h1, h2⟩ := told_seg (f := w.first) ht
      exact ⟨_, h1, h2, fun _ => rfl, .inl rfl, rfl, fun h => nomatch h⟩
theorem said_tok {s : List UInt8} {cl : Bool} {h : recv.He} (k : recv.Tru s cl h) (hs : s.length ≤ 30000) {a : recv.Ar} (ha : recv.OfS s cl a) : TOk (recv.doF h a).2 := by
  have st := k.step hs ha
  have r1 := k.ok.r1
  have w0 := st.w0
  have w1 := st.w1
  refine ⟨by omega, ?_⟩
  cases a with
  | arr f b fin => show (sacks _ _ 3).length ≤ 3; rw [sacks_len]; omega
  | take n => show (sacks _ _ 3).length ≤ 3; rw [sacks_len]; omega
theorem WOk.hear {w : Wi} {N : Nat} (k : WOk w N) (hN : N ≤ 30000) {a : recv.Ar} (ha : recv.OfS w.se.data w.se.closed a) : WOk { w with he := (recv.doF w.he a).1 } N ∧ TOk (recv.doF w.he a).2 ∧ recv.AOk w.he a := by
  have hl := k.len
  have st := k.he.step (by omega) ha
  exact ⟨⟨k.f, k.se, st.tru, k.len, fun f hf => by obtain ⟨s, hs⟩ := k.fs f hf; exact ⟨s, Grow.fok (w := w) (w' := { w with he := (recv.doF w.he a).1 }) rfl (.same rfl rfl) hs⟩⟩, said_tok k.he (by omega) ha, k.he.aok (by omega) ha⟩
/-- what is carried is a piece of the stream -/
theorem carry_ofS {w : Wi} {N : Nat} (k : WOk w N) (hN : N ≤ 30000) {id : Int} (h : (takenF w id false).1 = 0) : ∃ F : Nat, pl w.first (takenF w id false).2.q w.he.done = (F : Int) ∧
    recv.OfS w.se.data w.se.closed (.arr (pl w.first (takenF w id false).2.q w.he.done) (takenF w id false).2.d (seg.bt (takenF w id false).2.f 1)) := by
  obtain ⟨f, s, hf, hs, hb, e⟩ := taken_ok k h
  obtain ⟨F, E, p⟩ := hs.fwd hb
  rw [e]
  have hl := k.len
  have hi := k.he.hi
  have hdl := k.he.ok.dle
  have hd0 := k.he.ok.may.d0
  have hle := p.le
  have hhi := p.hi
  have hpl : pl w.first s.q w.he.done = (F : Int) := by
    rw [p.q]; exact pl_mk k.f (by omega) hd0 (by omega)
  rw [hpl]
  exact ⟨F, rfl, F, E, rfl, p.le, p.hi, p.n, p.d, p.fin⟩
theorem WOk.step {w : Wi} {N : Nat} (k : WOk w N) (h : Ho) (hN : N + given h ≤ 30000) (ho : HoOk h) : WOk (doF w h).1 (N + given h) := by
  have hl := k.len
  have keep : ∀ d : send.De, (∀ b, d ≠ .submit b) → (send.doF w.se d).1.data.length ≤ N := by
    intro d hd
    cases d with
    | submit b => exact absurd rfl (hd b)
    | heard a v l =>
      show (send.heardF w.se a v l).2.data.length ≤ N
      rcases send.heard_spec k.se a v l with ⟨h, _⟩ | ⟨_, h⟩
      · rw [h]; exact hl
      · rw [h.data]; exact hl
    | poll =>
      show (send.pollF w.se).1.data.length ≤ N
      unfold send.pollF
      split
      · exact hl
      · split <;> exact hl
    | timeout => show (send.timeoutF w.se).data.length ≤ N; unfold send.timeoutF; split <;> exact hl
    | close => exact hl
  cases h with
  | give b =>
    refine k.own _ ?_
    show (send.submitF w.se b).2.data.length ≤ N + b.length
    unfold send.submitF
    split
    · exact Nat.le_trans hl (Nat.le_add_right _ _)
    · split
      · exact Nat.le_trans hl (Nat.le_add_right _ _)
      · split
        · exact Nat.le_trans hl (Nat.le_add_right _ _)
        · show (w.se.data ++ b).length ≤ _; rw [List.length_append]; omega
  | shut => exact k.own _ (keep _ (fun b e => nomatch e))
  | expire => exact k.own _ (keep _ (fun b e => nomatch e))
  | send =>
    have k1 := k.own .poll (keep _ (fun b e => nomatch e))
    show WOk (sendF w).1 N
    unfold sendF
    split
    · exact k1
    · rename_i hi
      obtain ⟨h1, h2, F, E, _, p⟩ := poll_piece k.se hi
      have g := grow_do k.se .poll
      refine ⟨k1.f, k1.se, k1.he, k1.len, fun f hf => ?_⟩
      rcases List.mem_append.1 hf with hf | hf
      · obtain ⟨s, hs⟩ := k1.fs f hf
        exact ⟨s, Grow.fok (w := (ownF w .poll).1) (w' := ({ w with se := (send.doF w.se .poll).1 } : Wi).put (segS w.first (send.doF w.se .poll).2) false) rfl (.same rfl rfl) hs⟩
      · rw [List.mem_singleton] at hf
        subst hf
        exact ⟨_, h1, h2, fun _ => rfl, .inl rfl, rfl, fun _ => ⟨F, E, Grow.piece (w := w) (w' := ({ w with se := (send.doF w.se .poll).1 } : Wi).put (segS w.first (send.doF w.se .poll).2) false) rfl g p⟩⟩
  | hit id at_ by_ =>
    show WOk (hitF w id at_ by_).1 N
    unfold hitF
    split
    · exact k
    · rename_i c1
      split
      · exact k
      · rename_i c2
        split
        · exact k
        · rename_i c3
          have hid : id.toNat < w.fs.length := by omega
          refine ⟨k.f, k.se, k.he, k.len, fun f hf => ?_⟩
          rcases List.mem_or_eq_of_mem_set hf with hf | hf
          · obtain ⟨s, hs⟩ := k.fs f hf
            exact ⟨s, hs.rng, hs.flt, hs.own, hs.was, hs.len, fun e => by obtain ⟨F, E, p⟩ := hs.fwd e; exact ⟨F, E, p.le, p.hi, p.n, p.d, p.q, p.fin⟩⟩
          · obtain ⟨s, hs⟩ := k.fs _ (getD_memF hid)
            have hown := hs.own (by simpa using c3)
            have hat : at_.toNat < (seg.enc s).length := by rw [← hs.len]; omega
            subst hf
            refine ⟨s, hs.rng, hs.flt, fun e => (nomatch e), ?_, by simp only [List.length_set]; exact hs.len, fun e => by obtain ⟨F, E, p⟩ := hs.fwd e; exact ⟨F, E, p.le, p.hi, p.n, p.d, p.q, p.fin⟩⟩
            simp only
            rw [hown]
            by_cases hb : by_ = 0
            · left; rw [hb, xor0, set_own hat]
            · right; exact seg.dec_seen hat (xor_ne0 hb)
  | carry id =>
    show WOk (carryF w id).1 N
    unfold carryF
    split
    · exact k
    · rename_i c
      split
      · exact k
      · obtain ⟨F, hF, hof⟩ := carry_ofS k (by omega) (Decidable.not_not.1 c)
        obtain ⟨k1, t1, _⟩ := k.hear (by omega) hof
        exact k1.reply t1
  | back id =>
    show WOk (heardF w id).1 N
    unfold heardF
    split
    · exact k
    · split
      · exact k
      · exact k.own _ (keep _ (fun b e => nomatch e))
  | drain n =>
    obtain ⟨k1, t1, _⟩ := k.hear (N := N) (by omega) (a := .take n) ho
    exact k1.reply t1
theorem WOk.new {first room : Int} (hf : 0 ≤ first ∧ first < 65536) (hr : 1 ≤ room ∧ room ≤ 4096) : WOk (newW first room) 0 :=
  ⟨hf, send.SOk.new (by omega), recv.Tru.new hr, Nat.le_refl _, fun f h => nomatch h⟩
end pipe
end Go.Proofs.Ytcllddkhnbnigaa
