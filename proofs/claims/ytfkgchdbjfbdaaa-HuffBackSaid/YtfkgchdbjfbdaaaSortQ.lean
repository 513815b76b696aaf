/-
  AN ELEMENT THAT WANDERS THROUGH A ROW; a row sorted by putting in; in plain Lean. No program in sight.
-/
import Derived.Test.YtfkgchdbjfbdaaaSortP
namespace Go.Proofs.Ytfkgchdbjfbdaaa
set_option linter.unusedVariables false
namespace sort
def insZ (Z : List Nat) (c x : Nat) : List Nat := Z.take c ++ x :: Z.drop c
theorem insZ_len {Z : List Nat} {c : Nat} (x : Nat) (hc : c ≤ Z.length) : (insZ Z c x).length = Z.length + 1 := by
  unfold insZ; rw [List.length_append, List.length_take, List.length_cons, List.length_drop]; omega
theorem insZ_at {Z : List Nat} {c : Nat} (x : Nat) (hc : c ≤ Z.length) (k : Nat) : (insZ Z c x).getD k default = if k < c then Z.getD k default else if k = c then x else Z.getD (k - 1) default := by
  unfold insZ
  rw [getD_app, List.length_take, Nat.min_eq_left hc]
  by_cases h : k < c
  · rw [if_pos h, if_pos h, List.getD_eq_getElem?_getD, List.getElem?_take_of_lt h, List.getD_eq_getElem?_getD]
  · rw [if_neg h, if_neg h]
    by_cases e : k = c
    · rw [if_pos e, e, Nat.sub_self]; rfl
    · rw [if_neg e, show k - c = (k - 1 - c) + 1 by omega, List.getD_cons_succ, List.getD_eq_getElem?_getD, List.getElem?_drop, List.getD_eq_getElem?_getD, show c + (k - 1 - c) = k - 1 by omega]
theorem insZ_left {Z : List Nat} {c : Nat} (x : Nat) (h : c + 1 ≤ Z.length) : huff.swp (insZ Z (c + 1) x) (c + 1) c = insZ Z c x := by
  have l1 := insZ_len x h
  have l2 := insZ_len (c := c) x (show c ≤ Z.length by omega)
  refine ext_getD (by rw [huff.swp_len]; omega) fun k hk => ?_
  rw [huff.swp_at _ _ _ _ (by omega) (by omega), insZ_at x h, insZ_at x h, insZ_at x h, insZ_at x (show c ≤ Z.length by omega)]
  by_cases c1 : k = c + 1
  · rw [if_pos c1, if_pos (by omega), if_neg (by omega), if_neg (by omega)]; congr 1; omega
  · rw [if_neg c1]
    by_cases c2 : k = c
    · rw [if_pos c2, if_neg (by omega), if_pos rfl, if_neg (by omega), if_pos c2]
    · rw [if_neg c2]
      by_cases c3 : k < c
      · rw [if_pos (by omega), if_pos c3]
      · rw [if_neg (by omega), if_neg c1, if_neg c3, if_neg c2]
theorem insZ_right {Z : List Nat} {c : Nat} (x : Nat) (h : c + 1 ≤ Z.length) : huff.swp (insZ Z c x) c (c + 1) = insZ Z (c + 1) x := by
  have l1 := insZ_len x h
  have l2 := insZ_len (c := c) x (show c ≤ Z.length by omega)
  refine ext_getD (by rw [huff.swp_len]; omega) fun k hk => ?_
  rw [huff.swp_at _ _ _ _ (by omega) (by omega), insZ_at x (show c ≤ Z.length by omega), insZ_at x (show c ≤ Z.length by omega), insZ_at x (show c ≤ Z.length by omega), insZ_at x h]
  by_cases c2 : k = c
  · rw [if_pos c2, if_neg (by omega), if_neg (by omega), if_pos (by omega)]; congr 1; omega
  · rw [if_neg c2]
    by_cases c1 : k = c + 1
    · rw [if_pos c1, if_neg (by omega), if_pos rfl, if_neg (by omega), if_pos c1]
    · rw [if_neg c1]
      by_cases c3 : k < c
      · rw [if_pos c3, if_pos (by omega)]
      · rw [if_neg c3, if_neg c2, if_neg (by omega), if_neg c1]
theorem insZ_mid (P V Q : List Nat) (u e : Nat) (he : e ≤ V.length) : insZ (P ++ (V ++ Q)) (P.length + e) u = P ++ ((V.take e ++ u :: V.drop e) ++ Q) := by
  unfold insZ
  rw [List.take_length_add_append, List.drop_length_add_append, List.take_append_of_le_length he, List.drop_append_of_le_length he, List.append_assoc, List.append_assoc]; rfl
theorem ins_perm (W : List Nat) (x s : Nat) : (W.take s ++ x :: W.drop s).Perm (x :: W) := by
  have h : (W.take s ++ x :: W.drop s).Perm (x :: (W.take s ++ W.drop s)) := List.perm_middle
  rwa [List.take_append_drop] at h
/-- so many are put in -/
structure Ins (K : Nat → Int) (a b : Nat) (X W X2 : List Nat) : Prop where
  pos : 0 < W.length
  len : a + W.length + X2.length = b
  perm : (W ++ X2).Perm X
  srt : Srt K W
  sep : Sep W X2
  asc : X2.Pairwise (· < ·)
theorem Ins.start {K : Nat → Int} {a b x0 : Nat} {X : List Nat} (h : (x0 :: X).Pairwise (· < ·)) (hb : a + (X.length + 1) = b) : Ins K a b (x0 :: X) [x0] X :=
  ⟨by simp, by simp; omega, .refl _, List.pairwise_singleton .., fun u hu v hv => by rw [List.mem_singleton.1 hu]; exact (List.pairwise_cons.1 h).1 v hv, (List.pairwise_cons.1 h).2⟩
theorem Ins.next {K : Nat → Int} {a b x : Nat} {X W X3 : List Nat} (h : Ins K a b X W (x :: X3)) (s : Nat) (hs : s ≤ W.length) (f1 : s = 0 ∨ ¬ K x < K (W.getD (s - 1) default)) (f2 : s = W.length ∨ K x < K (W.getD s default)) :
    Ins K a b X (W.take s ++ x :: W.drop s) X3 ∧ (W.take s ++ x :: W.drop s).length = W.length + 1 := by
  have hp := ins_perm W x s
  have hl : (W.take s ++ x :: W.drop s).length = W.length + 1 := by rw [hp.length_eq]; rfl
  have h2 := h.len
  simp only [List.length_cons] at h2
  refine ⟨⟨by omega, by omega, ?_, put_right h.srt (fun u hu => h.sep u hu x (List.mem_cons_self ..)) s hs f1 f2, fun u hu v hv => ?_, (List.pairwise_cons.1 h.asc).2⟩, hl⟩
  · refine (hp.append_right X3).trans (List.Perm.trans ?_ h.perm)
    exact (List.perm_middle (a := x) (l₁ := W) (l₂ := X3)).symm
  · rcases List.mem_cons.1 (hp.mem_iff.1 hu) with rfl | hu
    · exact (List.pairwise_cons.1 h.asc).1 v hv
    · exact h.sep u hu v (List.mem_cons_of_mem _ hv)
end sort
end Go.Proofs.Ytfkgchdbjfbdaaa
