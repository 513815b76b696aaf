/-
  A HEAP, IN PLAIN LEAN: what going down and up keeps. No program in sight.
-/
import Derived.Test.YtfkgchdbjfbdaaaBase
namespace Go.Proofs.Ytfkgchdbjfbdaaa
set_option linter.unusedVariables false
namespace huff
/-- two places change -/
def swp {α : Type} [Inhabited α] (l : List α) (i j : Nat) : List α := (l.set i (l.getD j default)).set j (l.getD i default)
theorem getD_set {α : Type} [Inhabited α] (l : List α) (i j : Nat) (x : α) : (l.set i x).getD j default = if i = j ∧ i < l.length then x else l.getD j default := by
  rw [List.getD_eq_getElem?_getD, List.getD_eq_getElem?_getD, List.getElem?_set]
  by_cases h : i = j
  · subst h
    rw [if_pos rfl]
    by_cases c : i < l.length
    · rw [if_pos c, if_pos ⟨rfl, c⟩]; rfl
    · rw [if_neg c, if_neg (fun h => c h.2), List.getElem?_eq_none (by omega)]
  · rw [if_neg h, if_neg (fun c => h c.1)]
theorem swp_len {α : Type} [Inhabited α] (l : List α) (i j : Nat) : (swp l i j).length = l.length := by simp [swp]
theorem swp_at {α : Type} [Inhabited α] (l : List α) (i j k : Nat) (hi : i < l.length) (hj : j < l.length) : (swp l i j).getD k default = if k = i then l.getD j default else if k = j then l.getD i default else l.getD k default := by
  unfold swp
  rw [getD_set, getD_set, List.length_set]
  by_cases c1 : j = k
  · rw [if_pos ⟨c1, hj⟩]
    by_cases c2 : k = i
    · rw [if_pos c2, c1, c2]
    · rw [if_neg c2, if_pos c1.symm]
  · rw [if_neg (fun h => c1 h.1)]
    by_cases c2 : i = k
    · rw [if_pos ⟨c2, hi⟩, if_pos c2.symm]
    · rw [if_neg (fun h => c2 h.1), if_neg (fun h => c2 h.symm), if_neg (fun h => c1 h.symm)]
theorem swp_perm {α : Type} [Inhabited α] (l : List α) (i j : Nat) (hi : i < l.length) (hj : j < l.length) : (swp l i j).Perm l := by
  have e1 : l.getD i default = l[i] := by rw [List.getD_eq_getElem?_getD, List.getElem?_eq_getElem hi]; rfl
  have e2 : l.getD j default = l[j] := by rw [List.getD_eq_getElem?_getD, List.getElem?_eq_getElem hj]; rfl
  unfold swp
  rw [e1, e2]
  exact List.set_set_perm hi hj
section
variable {α : Type} [Inhabited α] (le : α → α → Prop)
/-- parents from a place on are no more than their children -/
def Heapy (l : List α) (lo n : Nat) : Prop := ∀ j, 0 < j → j < n → lo ≤ (j - 1) / 2 → le (l.getD ((j - 1) / 2) default) (l.getD j default)
/-- the same but for one place's children, whose place's parent is no more than they are -/
structure Dn (l : List α) (lo n i : Nat) : Prop where
  all : ∀ j, 0 < j → j < n → lo ≤ (j - 1) / 2 → (j - 1) / 2 ≠ i → le (l.getD ((j - 1) / 2) default) (l.getD j default)
  up : lo < i → lo ≤ (i - 1) / 2 ∧ ∀ j, 0 < j → j < n → (j - 1) / 2 = i → le (l.getD ((i - 1) / 2) default) (l.getD j default)
theorem Dn.start {l : List α} {i n : Nat} (h : Heapy le l (i + 1) n) : Dn le l i n i :=
  ⟨fun j h0 hj hl hne => h j h0 hj (by omega), fun h => by omega⟩
theorem Dn.end_ {l : List α} {lo n i : Nat} (h : Dn le l lo n i) (hc : ∀ j, 0 < j → j < n → (j - 1) / 2 = i → le (l.getD i default) (l.getD j default)) : Heapy le l lo n := fun j h0 hj hl => by
  by_cases c : (j - 1) / 2 = i
  · rw [c]; exact hc j h0 hj c
  · exact h.all j h0 hj hl c
/-- a place and its least child change -/
theorem Dn.step {l : List α} {lo n i j : Nat} (h : Dn le l lo n i) (hlo : lo ≤ i) (h0 : 0 < j) (hj : j < n) (hn : n ≤ l.length) (hp : (j - 1) / 2 = i) (hlt : le (l.getD j default) (l.getD i default)) (hmin : ∀ k, 0 < k → k < n → (k - 1) / 2 = i → le (l.getD j default) (l.getD k default)) :
    Dn le (swp l i j) lo n j := by
  have hi : i < l.length := by omega
  have hjl : j < l.length := by omega
  have at_ := fun k => swp_at l i j k hi hjl
  have ne : i ≠ j := by omega
  refine ⟨fun k k0 hk kl kne => ?_, fun _ => ⟨by omega, fun k k0 hk kp => ?_⟩⟩
  · rw [at_ k, at_ ((k - 1) / 2)]
    by_cases c1 : (k - 1) / 2 = i
    · rw [if_pos c1]
      have kne2 : k ≠ i := by omega
      rw [if_neg kne2]
      by_cases c2 : k = j
      · rw [if_pos c2]; exact hlt
      · rw [if_neg c2]; exact hmin k k0 hk c1
    · rw [if_neg c1, if_neg kne]
      by_cases c2 : k = i
      · rw [if_pos c2]
        subst c2
        exact (h.up (by omega)).2 j h0 hj hp
      · rw [if_neg c2]
        have c3 : k ≠ j := fun e => c1 (by rw [e]; exact hp)
        rw [if_neg c3]
        exact h.all k k0 hk kl c1
  · rw [at_ k, hp, at_ i, if_pos rfl]
    rw [if_neg (by omega), if_neg (by omega)]
    have := h.all k k0 hk (by omega) (by omega)
    rw [kp] at this; exact this
/-- the same but between one place and its parent -/
structure Up (l : List α) (n j : Nat) : Prop where
  all : ∀ k, 0 < k → k < n → k ≠ j → le (l.getD ((k - 1) / 2) default) (l.getD k default)
  up : 0 < j → ∀ k, 0 < k → k < n → (k - 1) / 2 = j → le (l.getD ((j - 1) / 2) default) (l.getD k default)
theorem Up.start {l : List α} {n : Nat} {x : α} (h : Heapy le l 0 n) (hl : l.length = n) : Up le (l ++ [x]) (n + 1) n := by
  have at_ : ∀ k, k < n → (l ++ [x]).getD k default = l.getD k default := fun k hk => by
    rw [List.getD_eq_getElem?_getD, List.getElem?_append_left (by omega), List.getD_eq_getElem?_getD]
  refine ⟨fun k k0 hk kne => ?_, fun h0 k k0 hk e => by omega⟩
  rw [at_ k (by omega), at_ _ (by omega)]
  exact h k k0 (by omega) (Nat.zero_le _)
theorem Up.end_ {l : List α} {n j : Nat} (h : Up le l n j) (hc : 0 < j → le (l.getD ((j - 1) / 2) default) (l.getD j default)) : Heapy le l 0 n := fun k k0 hk _ => by
  by_cases c : k = j
  · subst c; exact hc k0
  · exact h.all k k0 hk c
theorem Up.step {l : List α} {n j : Nat} (tr : ∀ a b c, le a b → le b c → le a c) (h : Up le l n j) (h0 : 0 < j) (hj : j < n) (hn : n ≤ l.length) (hlt : le (l.getD j default) (l.getD ((j - 1) / 2) default)) : Up le (swp l ((j - 1) / 2) j) n ((j - 1) / 2) := by
  have hi : (j - 1) / 2 < l.length := by omega
  have hjl : j < l.length := by omega
  have at_ := fun k => swp_at l ((j - 1) / 2) j k hi hjl
  refine ⟨fun k k0 hk kne => ?_, fun hp k k0 hk e => ?_⟩
  · rw [at_ k, at_ ((k - 1) / 2), if_neg kne]
    by_cases c1 : k = j
    · rw [if_pos c1, c1, if_pos rfl]; exact hlt
    · rw [if_neg c1]
      by_cases c2 : (k - 1) / 2 = (j - 1) / 2
      · rw [if_pos c2]
        have := h.all k k0 hk c1
        rw [c2] at this
        exact tr _ _ _ hlt this
      · rw [if_neg c2]
        by_cases c3 : (k - 1) / 2 = j
        · rw [if_pos c3]
          exact h.up h0 k k0 hk c3
        · rw [if_neg c3]
          exact h.all k k0 hk c1
  · rw [at_ k, at_ (((j - 1) / 2 - 1) / 2), if_neg (by omega), if_neg (by omega)]
    have hpp := h.all ((j - 1) / 2) hp (by omega) (by omega)
    rw [if_neg (by omega)]
    by_cases c1 : k = j
    · rw [if_pos c1]; exact hpp
    · rw [if_neg c1]
      have := h.all k k0 hk c1
      rw [e] at this
      exact tr _ _ _ hpp this
theorem Heapy.least {l : List α} {n : Nat} (rf : ∀ a, le a a) (tr : ∀ a b c, le a b → le b c → le a c) (h : Heapy le l 0 n) : ∀ k, k < n → le (l.getD 0 default) (l.getD k default) := by
  intro k
  induction k using Nat.strongRecOn with
  | ind k ih =>
    intro hk
    rcases Nat.eq_zero_or_pos k with e | e
    · subst e; exact rf _
    · exact tr _ _ _ (ih ((k - 1) / 2) (by omega) (by omega)) (h k e hk (Nat.zero_le _))
end
end huff
end Go.Proofs.Ytfkgchdbjfbdaaa
