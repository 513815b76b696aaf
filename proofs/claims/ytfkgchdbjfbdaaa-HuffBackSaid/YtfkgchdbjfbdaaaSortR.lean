/-
  BLOCKS OF A ROW, EACH SORTED, in plain Lean. No program in sight.
-/
import Derived.Test.YtfkgchdbjfbdaaaSortQ
namespace Go.Proofs.Ytfkgchdbjfbdaaa
set_option linter.unusedVariables false
namespace sort
abbrev seg (l : List Nat) (a b : Nat) : List Nat := (l.drop a).take b
theorem seg_eq (l : List Nat) (a b : Nat) : seg l a b = (l.take (a + b)).drop a := by rw [List.drop_take, Nat.add_sub_cancel_left]
theorem seg_take {l m : List Nat} {a b c : Nat} (h : a + b ≤ c) (e : l.take c = m.take c) : seg l a b = seg m a b := by
  have f : ∀ x : List Nat, x.take (a + b) = (x.take c).take (a + b) := fun x => by rw [List.take_take, Nat.min_eq_left h]
  rw [seg_eq, seg_eq, f l, f m, e]
/-- the block of that number is sorted, and of the same numbers as at first -/
structure Blk (K : Nat → Int) (bs : Nat) (D X : List Nat) (t : Nat) : Prop where
  srt : Srt K (seg D (bs * t) bs)
  perm : (seg D (bs * t) bs).Perm (seg X (bs * t) bs)
theorem blk_step {K : Nat → Int} {bs k A : Nat} {D X W Q : List Nat} (hA : bs * k = A) (hk : ∀ t, t < k → Blk K bs D X t) (hl : A ≤ D.length) (hW : Srt K W) (hp : W.Perm (seg X A bs)) (hQ : W.length = bs ∨ Q = []) : ∀ t, t < k + 1 → Blk K bs (D.take A ++ (W ++ Q)) X t := fun t ht => by
  have hP : (D.take A).length = A := by rw [List.length_take]; omega
  by_cases c : t < k
  · have hle : bs * t + bs ≤ A := by rw [← hA, ← Nat.mul_succ]; exact Nat.mul_le_mul_left bs c
    have e : seg (D.take A ++ (W ++ Q)) (bs * t) bs = seg D (bs * t) bs := seg_take hle (by
      rw [List.take_append_of_le_length (by omega), List.take_take, Nat.min_self])
    obtain ⟨h1, h2⟩ := hk t c
    exact ⟨by rw [e]; exact h1, by rw [e]; exact h2⟩
  · obtain rfl : t = k := by omega
    have hWb : W.length ≤ bs := by rw [hp.length_eq, List.length_take]; omega
    have e : seg (D.take A ++ (W ++ Q)) A bs = W := by
      unfold seg
      rw [List.drop_left' hP]
      rcases hQ with h | h
      · exact List.take_left' h
      · rw [h, List.append_nil, List.take_of_length_le hWb]
    exact ⟨by rw [hA, e]; exact hW, by rw [hA, e]; exact hp⟩
theorem blk_all {K : Nat → Int} {bs k n : Nat} {D X : List Nat} (hk : ∀ t, t < k → Blk K bs D X t) (hn : n ≤ bs * k) (h1 : D.length = n) (h2 : X.length = n) : ∀ t, Blk K bs D X t := fun t => by
  by_cases c : t < k
  · exact hk t c
  · have : bs * k ≤ bs * t := Nat.mul_le_mul_left bs (by omega)
    have e1 : seg D (bs * t) bs = [] := by unfold seg; rw [List.drop_of_length_le (by omega), List.take_nil]
    have e2 : seg X (bs * t) bs = [] := by unfold seg; rw [List.drop_of_length_le (by omega), List.take_nil]
    exact ⟨by rw [e1]; exact List.Pairwise.nil, by rw [e1, e2]⟩
theorem seg_two (X : List Nat) (A bs : Nat) : seg X A bs ++ seg X (A + bs) bs = seg X A (2 * bs) := by
  unfold seg
  rw [← List.drop_drop, ← List.take_add, Nat.two_mul]
theorem asc_sep {X : List Nat} (h : X.Pairwise (· < ·)) (A bs : Nat) : Sep (seg X A bs) (seg X (A + bs) bs) := by
  have h2 : (seg X A bs ++ seg X (A + bs) bs).Pairwise (· < ·) := by
    rw [seg_two]; exact (h.sublist (List.drop_sublist ..)).sublist (List.take_sublist ..)
  exact fun u hu v hv => (List.pairwise_append.1 h2).2.2 u hu v hv
theorem blk_two {K : Nat → Int} {bs k A : Nat} {D X : List Nat} (hX : X.Pairwise (· < ·)) (hA : 2 * bs * k = A) (hb : ∀ t, Blk K bs D X t) :
    Srt K (seg D A bs) ∧ Srt K (seg D (A + bs) bs) ∧ Sep (seg D A bs) (seg D (A + bs) bs) ∧ (seg D A bs ++ seg D (A + bs) bs).Perm (seg X A (2 * bs)) ∧ (∀ x ∈ seg D A bs, x ∈ X) ∧ ∀ x ∈ seg D (A + bs) bs, x ∈ X := by
  have e1 : bs * (2 * k) = A := by rw [← hA, Nat.mul_comm 2 bs, Nat.mul_assoc]
  have e2 : bs * (2 * k + 1) = A + bs := by rw [Nat.mul_succ, e1]
  obtain ⟨u1, u2⟩ := hb (2 * k)
  obtain ⟨v1, v2⟩ := hb (2 * k + 1)
  rw [e1] at u1 u2
  rw [e2] at v1 v2
  have m : ∀ {a x}, x ∈ seg X a bs → x ∈ X := fun h => List.mem_of_mem_drop (List.mem_of_mem_take h)
  refine ⟨u1, v1, fun u hu v hv => asc_sep hX A bs u (u2.mem_iff.1 hu) v (v2.mem_iff.1 hv), ?_, fun x hx => m (u2.mem_iff.1 hx), fun x hx => m (v2.mem_iff.1 hx)⟩
  rw [← seg_two]; exact u2.append v2
theorem seg_cut (D : List Nat) (A bs : Nat) : D.drop A = seg D A bs ++ (seg D (A + bs) bs ++ D.drop (A + bs + bs)) := by
  unfold seg
  rw [← List.drop_drop (i := bs) (j := A + bs), ← List.drop_drop (i := bs) (j := A), List.take_append_drop, List.take_append_drop]
theorem blk_end {K : Nat → Int} {bs : Nat} {D X : List Nat} (hb : ∀ t, Blk K bs D X t) (h1 : D.length ≤ bs) (h2 : X.length ≤ bs) : Srt K D ∧ D.Perm X := by
  obtain ⟨a, b⟩ := hb 0
  unfold seg at a b
  rw [Nat.mul_zero, List.drop_zero, List.take_of_length_le h1] at a
  rw [Nat.mul_zero, List.drop_zero, List.drop_zero, List.take_of_length_le h1, List.take_of_length_le h2] at b
  exact ⟨a, b⟩
end sort
end Go.Proofs.Ytfkgchdbjfbdaaa
