/-
  PLAIN LAW of hole.Sacks.
-/
import Derived.Test.YtkinpmbokkfpbaaHoleP
namespace Go.Proofs.Ytkinpmbokkfpbaa
open Go.RowKit

namespace hole
def inx (x : Int) (r : R) : Bool := decide (r.1 ≤ x) && decide (x < r.2)
theorem inx_iff (x : Int) (r : R) : inx x r = true ↔ r.1 ≤ x ∧ x < r.2 := by simp [inx]
def sk (x : Int) (l : List R) : List R := l.filter (inx x) ++ l.filter fun r => !inx x r
theorem split_perm (p : R → Bool) : ∀ l : List R, (l.filter p ++ l.filter fun r => !p r).Perm l
  | [] => .refl _
  | a :: t => by
    cases h : p a
    · simp only [List.filter_cons, h, Bool.not_false, Bool.false_eq_true, if_false, if_true]
      exact List.perm_middle.trans ((split_perm p t).cons a)
    · simp only [List.filter_cons, h, Bool.not_true, Bool.false_eq_true, if_false, if_true]
      exact (split_perm p t).cons a
theorem chain_nodup : ∀ (l : List R) (d : Int), chain d l → l.Nodup
  | [], _, _ => List.nodup_nil
  | r :: t, d, h => by
    have hc : chain r.2 t := h.2.2
    have h12 : r.1 < r.2 := h.2.1
    refine List.nodup_cons.2 ⟨fun hm => ?_, chain_nodup t r.2 hc⟩
    have := chain_mem t r.2 hc r hm
    omega
theorem chain_one (x : Int) : ∀ (l : List R) (d : Int), chain d l → (l.filter (inx x)).length ≤ 1
  | [], _, _ => by simp
  | r :: t, d, h => by
    have hc : chain r.2 t := h.2.2
    have ih := chain_one x t r.2 hc
    rw [List.filter_cons]
    split
    · rename_i hx
      rw [inx_iff] at hx
      have : t.filter (inx x) = [] := List.filter_eq_nil_iff.2 fun y hy => by
        rw [inx_iff]
        have := chain_mem t r.2 hc y hy
        omega
      rw [this]; simp
    · exact ih
def sacks (x : Int) (l : List R) (k : Nat) : List R := (sk x l.reverse).take k
theorem sk_perm (x : Int) (l : List R) : (sk x l.reverse).Perm l := (split_perm (inx x) l.reverse).trans (List.reverse_perm l)
theorem sacks_len (x : Int) (l : List R) (k : Nat) : (sacks x l k).length = min k l.length := by
  unfold sacks; rw [List.length_take, (sk_perm x l).length_eq]
theorem sacks_mem {x : Int} {l : List R} {k : Nat} {r : R} (h : r ∈ sacks x l k) : r ∈ l := (sk_perm x l).mem_iff.1 (List.mem_of_mem_take h)
theorem sacks_nodup (x : Int) (l : List R) (k : Nat) {d : Int} (h : chain d l) : (sacks x l k).Nodup :=
  List.Sublist.nodup (List.take_sublist k _) ((sk_perm x l).nodup_iff.2 (chain_nodup l d h))
theorem getD_eq' (l : List R) (i : Nat) (h : i < l.length) : l.getD i default = l[i] := by
  rw [List.getD_eq_getElem?_getD, List.getElem?_eq_getElem h]; rfl
theorem sacks_ne {x : Int} {l : List R} {k : Nat} {d : Int} (h : chain d l) {i j : Nat} (hj : j < i) (hi : i < (sacks x l k).length) : (sacks x l k).getD j default ≠ (sacks x l k).getD i default := by
  have hn := sacks_nodup x l k h
  rw [getD_eq' _ _ hi, getD_eq' _ _ (by omega)]
  intro e
  have := (List.getElem_inj hn).1 e
  omega
theorem sacks_rest {x : Int} {l : List R} {k : Nat} {d : Int} (h : chain d l) {i : Nat} (h0 : 0 < i) (hi : i < (sacks x l k).length) : ¬ (((sacks x l k).getD i default).1 ≤ x ∧ x < ((sacks x l k).getD i default).2) := by
  have h1 : (l.reverse.filter (inx x)).length ≤ 1 := by rw [List.filter_reverse, List.length_reverse]; exact chain_one x l d h
  rw [getD_eq' _ _ hi]
  unfold sacks sk at hi ⊢
  rw [List.getElem_take, List.getElem_append_right (by omega)]
  rw [← inx_iff]
  have hm := List.getElem_mem (l := l.reverse.filter fun r => !inx x r) (n := i - (l.reverse.filter (inx x)).length) (by simp only [List.length_take, List.length_append] at hi; omega)
  have := (List.mem_filter.1 hm).2
  simpa using this
theorem sacks_first {x : Int} {l : List R} {k : Nat} (hk : 0 < k) (hx : inn l x) : ((sacks x l k).getD 0 default).1 ≤ x ∧ x < ((sacks x l k).getD 0 default).2 := by
  obtain ⟨r, hr, h1, h2⟩ := hx
  have hm : r ∈ l.reverse.filter (inx x) := List.mem_filter.2 ⟨List.mem_reverse.2 hr, (inx_iff x r).2 ⟨h1, h2⟩⟩
  have hpos : 0 < (l.reverse.filter (inx x)).length := List.length_pos_of_mem hm
  have h0 : 0 < (sacks x l k).length := by
    rw [sacks_len]; have := List.length_pos_of_mem hr; omega
  rw [getD_eq' _ _ h0]
  unfold sacks sk at h0 ⊢
  rw [List.getElem_take, List.getElem_append_left hpos, ← inx_iff]
  exact (List.mem_filter.1 (List.getElem_mem hpos)).2
def cnt (y : R) : List R → Nat
  | [] => 0
  | a :: t => (if a = y then 1 else 0) + cnt y t
theorem cnt_snoc (y : R) (a : R) : ∀ l : List R, cnt y (l ++ [a]) = cnt y l + (if a = y then 1 else 0)
  | [] => by simp [cnt]
  | b :: t => by simp only [List.cons_append, cnt, cnt_snoc y a t]; omega
theorem cnt_zero (y : R) : ∀ l : List R, y ∉ l → cnt y l = 0
  | [], _ => rfl
  | a :: t, h => by
    simp only [List.mem_cons, not_or] at h
    simp only [cnt, cnt_zero y t h.2, if_neg (Ne.symm h.1)]
theorem cnt_one (y : R) : ∀ l : List R, l.Nodup → y ∈ l → cnt y l = 1
  | [], _, h => by simp at h
  | a :: t, hn, h => by
    obtain ⟨h1, h2⟩ := List.nodup_cons.1 hn
    by_cases e : a = y
    · subst e; simp only [cnt, if_true, cnt_zero a t h1]
    · simp only [cnt, if_neg e, cnt_one y t h2 ((List.mem_cons.1 h).resolve_left (Ne.symm e))]
theorem cnt_le (y : R) : ∀ l : List R, cnt y l ≤ l.length
  | [] => Nat.le_refl _
  | a :: t => by have := cnt_le y t; simp only [cnt, List.length_cons]; split <;> omega
end hole
end Go.Proofs.Ytkinpmbokkfpbaa
