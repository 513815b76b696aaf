/-
  PLAIN LAWS of paths: what is clean stays, step by step, back and forth.
-/
import Derived.Test.YtjfdpfjngajnlaaDoorPth
namespace Go.Proofs.YtjfdpfjngajnlaaDoor
open Go.RowKit
namespace path
theorem splitF_app (p : List UInt8) (h : 47 ∉ p) (R : List UInt8) (a : List UInt8) (t : List (List UInt8)) (hR : splitF R = a :: t) : splitF (p ++ R) = (p ++ a) :: t := by
  induction p with
  | nil => exact hR
  | cons c p ih =>
    have hc : ¬ c = 47 := fun e => h (by rw [e]; exact List.mem_cons_self ..)
    have := ih fun hm => h (List.mem_cons_of_mem _ hm)
    rw [List.cons_append, splitF_cons, if_neg hc, this]; rfl
theorem splitF_cat (A q : List UInt8) : splitF (A ++ 47 :: q) = splitF A ++ splitF q := by
  induction A with
  | nil => rw [List.nil_append, splitF_cons, if_pos rfl]; rfl
  | cons c A ih =>
    rw [List.cons_append, splitF_cons, splitF_cons, ih]
    by_cases hc : c = 47
    · rw [if_pos hc, if_pos hc]; rfl
    · rw [if_neg hc, if_neg hc]
      cases e : splitF A with
      | nil => exact absurd e (splitF_ne A)
      | cons x t => rfl
theorem splitF_parts (P : List (List UInt8)) (h : ∀ p ∈ P, 47 ∉ p) : splitF (ofParts P) = [] :: P := by
  induction P with
  | nil => rfl
  | cons p t ih =>
    have ht := ih fun q hq => h q (List.mem_cons_of_mem _ hq)
    show splitF (47 :: (p ++ ofParts t)) = _
    rw [splitF_cons, if_pos rfl, splitF_app p (h p (List.mem_cons_self ..)) _ [] t ht, List.append_nil]
theorem joinF_parts (l : List (List UInt8)) (h : l ≠ []) : joinF l = ofParts l := by
  cases l with
  | nil => exact absurd rfl h
  | cons x r =>
    unfold joinF ofParts
    rw [Lib.join_cons, List.flatMap_cons, List.flatMap_def]
    rfl
theorem goF_cons (o t : List (List UInt8)) (p : List UInt8) : goF o (p :: t) = if p = [] ∨ p = [46] then goF o t else if p = [46, 46] then goF o.dropLast t else if ¬ NameOk p then ([], 4) else if o.length = 12 then ([], 9) else goF (o ++ [p]) t := rfl
theorem goF_app (o A B r : List (List UInt8)) (h : goF o A = (r, 0)) : goF o (A ++ B) = goF r B := by
  induction A generalizing o with
  | nil =>
    have : o = r := congrArg Prod.fst h
    rw [this]; rfl
  | cons p t ih =>
    rw [List.cons_append]
    rw [goF_cons] at h ⊢
    split at h
    · rename_i c; rw [if_pos c]; exact ih _ h
    · rename_i c; rw [if_neg c]
      split at h
      · rename_i c; rw [if_pos c]; exact ih _ h
      · rename_i c; rw [if_neg c]
        split at h
        · exact absurd (show (4 : Int) = 0 from congrArg Prod.snd h) (by decide)
        · rename_i c; rw [if_neg c]
          split at h
          · exact absurd (show (9 : Int) = 0 from congrArg Prod.snd h) (by decide)
          · rename_i c; rw [if_neg c]; exact ih _ h
theorem name_not {p : List UInt8} (h : NameOk p) : ¬ (p = [] ∨ p = [46]) ∧ ¬ p = [46, 46] :=
  ⟨fun e => e.elim (fun e => by have := h.1; rw [e] at this; exact absurd this (by decide)) h.2.2.1, h.2.2.2.1⟩
theorem goF_names (o l : List (List UInt8)) (h : NamesOk (o ++ l)) : goF o l = (o ++ l, 0) := by
  induction l generalizing o with
  | nil => rw [List.append_nil]; rfl
  | cons p t ih =>
    have hp := h.2 p (by simp)
    have hl := h.1
    simp only [List.length_append, List.length_cons] at hl
    unfold goF
    rw [if_neg (name_not hp).1, if_neg (name_not hp).2, if_neg (fun e => e hp), if_neg (by omega), ih (o ++ [p]) (by rw [List.append_assoc]; exact h), List.append_assoc]; rfl
theorem goF_ok (o l r : List (List UInt8)) (ho : NamesOk o) (h : goF o l = (r, 0)) : NamesOk r := by
  induction l generalizing o with
  | nil =>
    have : o = r := congrArg Prod.fst h
    rw [← this]; exact ho
  | cons p t ih =>
    unfold goF at h
    split at h
    · exact ih _ ho h
    · split at h
      · exact ih _ ⟨by have := ho.1; rw [List.length_dropLast]; omega, fun s hs => ho.2 s ((List.dropLast_sublist _).subset hs)⟩ h
      · split at h
        · exact absurd (show (4 : Int) = 0 from congrArg Prod.snd h) (by decide)
        · rename_i c
          split at h
          · exact absurd (show (9 : Int) = 0 from congrArg Prod.snd h) (by decide)
          · refine ih _ ⟨by have := ho.1; rw [List.length_append, List.length_singleton]; omega, fun s hs => ?_⟩ h
            rcases List.mem_append.1 hs with hs | hs
            · exact ho.2 s hs
            · rw [List.mem_singleton] at hs; rw [hs]; exact Decidable.not_not.1 c
theorem goF_err (o l : List (List UInt8)) (h : (goF o l).2 ≠ 0) : (goF o l).1 = [] := by
  induction l generalizing o with
  | nil => exact absurd rfl h
  | cons p t ih =>
    unfold goF at h ⊢
    split at h
    · rename_i c; rw [if_pos c]; exact ih _ h
    · rename_i c; rw [if_neg c]
      split at h
      · rename_i c; rw [if_pos c]; exact ih _ h
      · rename_i c; rw [if_neg c]
        split at h
        · rename_i c; rw [if_pos c]
        · rename_i c; rw [if_neg c]
          split at h
          · rename_i c; rw [if_pos c]
          · rename_i c; rw [if_neg c]; exact ih _ h
theorem goF_mem (o l : List (List UInt8)) : ∀ s ∈ (goF o l).1, s ∈ o ∨ s ∈ l := by
  induction l generalizing o with
  | nil => intro s hs; exact .inl hs
  | cons p t ih =>
    intro s hs
    unfold goF at hs
    split at hs
    · exact (ih _ s hs).imp id (List.mem_cons_of_mem _)
    · split at hs
      · exact (ih _ s hs).imp (fun h => (List.dropLast_sublist _).subset h) (List.mem_cons_of_mem _)
      · split at hs
        · cases hs
        · split at hs
          · cases hs
          · rcases ih _ s hs with h | h
            · rcases List.mem_append.1 h with h | h
              · exact .inl h
              · rw [List.mem_singleton] at h; exact .inr (h ▸ List.mem_cons_self ..)
            · exact .inr (List.mem_cons_of_mem _ h)
def PartOk (p : List UInt8) : Prop := p = [] ∨ p = [46] ∨ p = [46, 46] ∨ NameOk p
theorem goF_parts (o l : List (List UInt8)) (hl : ∀ p ∈ l, PartOk p) (h : o.length + l.length ≤ 12) : (goF o l).2 = 0 ∧ (goF o l).1.length ≤ o.length + l.length := by
  induction l generalizing o with
  | nil => exact ⟨rfl, Nat.le_refl _⟩
  | cons p t ih =>
    have ht : ∀ p ∈ t, PartOk p := fun q hq => hl q (List.mem_cons_of_mem _ hq)
    simp only [List.length_cons] at h ⊢
    unfold goF
    split
    · have := ih o ht (by omega); exact ⟨this.1, by omega⟩
    · rename_i c1
      split
      · have := ih o.dropLast ht (by rw [List.length_dropLast]; omega); rw [List.length_dropLast] at this; exact ⟨this.1, by omega⟩
      · rename_i c2
        rcases hl p (List.mem_cons_self ..) with e | e | e | e
        · exact absurd (.inl e) c1
        · exact absurd (.inr e) c1
        · exact absurd e c2
        · rw [if_neg (fun h => h e), if_neg (by omega)]
          have := ih (o ++ [p]) ht (by rw [List.length_append, List.length_singleton]; omega)
          rw [List.length_append, List.length_singleton] at this
          exact ⟨this.1, by omega⟩
theorem name_no47 {p : List UInt8} (h : NameOk p) : 47 ∉ p :=
  fun hm => h.2.2.2.2 ⟨47, hm, .inl rfl⟩
theorem clean_join (l : List (List UInt8)) (h : NamesOk l) (hl : (joinF l).length ≤ 200) : walkF [] (joinF l) = (l, 0) := by
  unfold walkF
  rw [if_neg (by omega)]
  by_cases h0 : l = []
  · subst h0; rfl
  · rw [joinF_parts l h0, splitF_parts l fun p hp => name_no47 (h.2 p hp)]
    show goF [] l = _
    rw [goF_names [] l (by rw [List.nil_append]; exact h)]; rfl
theorem joinF_len (l : List (List UInt8)) (n : Nat) (h : ∀ s ∈ l, s.length ≤ 11) (hn : l.length ≤ n) : (joinF l).length ≤ 12 * n + 1 := by
  by_cases h0 : l = []
  · subst h0; show 1 ≤ _; omega
  · rw [joinF_parts l h0]
    have : ∀ l : List (List UInt8), (∀ s ∈ l, s.length ≤ 11) → (ofParts l).length ≤ 12 * l.length := by
      intro l
      induction l with
      | nil => intro _; exact Nat.le_refl _
      | cons a t ih =>
        intro h
        have h1 := h a (List.mem_cons_self ..)
        have h2 := ih fun s hs => h s (List.mem_cons_of_mem _ hs)
        simp only [ofParts, List.flatMap_cons, List.length_append, List.length_cons] at h2 ⊢
        omega
    have := this l h
    omega
theorem partF_ok (z : Int) : PartOk (partF z) := (part_ok z).2.1
/-- the names of a path of parts -/
theorem pathO_names (zs : List Int) (N : Nat) (hN : N ≤ 12) : ∃ a, walkF [] (pathO zs N) = (a, 0) ∧ NamesOk a ∧ a.length ≤ N ∧ (∀ s ∈ a, s.length ≤ 11) ∧ goF [] ((zs.take N).map partF) = (a, 0) := by
  have hlen := pathO_len zs N
  have hm : ∀ p ∈ (zs.take N).map partF, PartOk p := fun p hp => by
    obtain ⟨z, _, rfl⟩ := List.mem_map.1 hp; exact partF_ok z
  have h47 : ∀ p ∈ (zs.take N).map partF, 47 ∉ p := fun p hp => by
    obtain ⟨z, _, rfl⟩ := List.mem_map.1 hp; exact (part_ok z).2.2
  have hl : ((zs.take N).map partF).length ≤ N := by rw [List.length_map, List.length_take]; omega
  have hg := goF_parts [] ((zs.take N).map partF) hm (by simp only [List.length_nil]; omega)
  simp only [List.length_nil, Nat.zero_add] at hg
  have he : goF [] ((zs.take N).map partF) = ((goF [] ((zs.take N).map partF)).1, 0) := Prod.ext rfl hg.1
  refine ⟨(goF [] ((zs.take N).map partF)).1, ?_, goF_ok [] _ _ ⟨by decide, fun s hs => nomatch hs⟩ he, by omega, fun s hs => ?_, he⟩
  · unfold walkF
    rw [if_neg (by omega)]
    unfold pathO
    rw [splitF_parts _ h47]
    exact he
  · rcases goF_mem _ _ s hs with h | h
    · cases h
    · obtain ⟨z, _, rfl⟩ := List.mem_map.1 h; exact (part_ok z).1
end path
end Go.Proofs.YtjfdpfjngajnlaaDoor
