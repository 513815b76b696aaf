/-
  A STABLE SORT BY MERGING IN PLACE, IN PLAIN LEAN: the order, the cut of a merge, a row turned round, an element put in. No program in sight.
-/
import Derived.Test.YtfkgchdbjfbdaaaHuffQ
import Derived.Test.YtfkgchdbjfbdaaaHeapP
namespace Go.Proofs.Ytfkgchdbjfbdaaa
set_option linter.unusedVariables false
namespace sort
/-- ahead, by the key, then by the number -/
def bf (K : Nat → Int) (x y : Nat) : Prop := K x < K y ∨ (K x = K y ∧ x < y)
theorem bf_trans {K : Nat → Int} {x y z : Nat} (h : bf K x y) (h' : bf K y z) : bf K x z := by unfold bf at *; omega
theorem bf_of {K : Nat → Int} {u v : Nat} (h : u < v) : (bf K v u ↔ K v < K u) ∧ (bf K u v ↔ ¬ K v < K u) := by unfold bf; omega
abbrev Srt (K : Nat → Int) (l : List Nat) : Prop := l.Pairwise (bf K)
abbrev Sep (U V : List Nat) : Prop := ∀ u ∈ U, ∀ v ∈ V, u < v
theorem Srt.at {K : Nat → Int} {l : List Nat} (h : Srt K l) {i j : Nat} (hij : i < j) (hj : j < l.length) : bf K (l.getD i default) (l.getD j default) := by
  have := List.pairwise_iff_getElem.1 h i j (by omega) hj hij
  rw [List.getD_eq_getElem?_getD, List.getD_eq_getElem?_getD, List.getElem?_eq_getElem (by omega), List.getElem?_eq_getElem hj]
  exact this
theorem mem_take_at {l : List Nat} {x s : Nat} (h : x ∈ l.take s) : ∃ i, i < s ∧ i < l.length ∧ x = l.getD i default := by
  obtain ⟨i, hi, rfl⟩ := List.getElem_of_mem h
  rw [List.length_take] at hi
  refine ⟨i, by omega, by omega, ?_⟩
  rw [List.getElem_take, List.getD_eq_getElem?_getD, List.getElem?_eq_getElem (by omega)]; rfl
theorem mem_drop_at {l : List Nat} {x s : Nat} (h : x ∈ l.drop s) : ∃ i, s ≤ i ∧ i < l.length ∧ x = l.getD i default := by
  obtain ⟨i, hi, rfl⟩ := List.getElem_of_mem h
  rw [List.length_drop] at hi
  refine ⟨s + i, by omega, by omega, ?_⟩
  rw [List.getElem_drop, List.getD_eq_getElem?_getD, List.getElem?_eq_getElem (by omega)]; rfl
theorem getD_mem' {l : List Nat} {i : Nat} (h : i < l.length) : l.getD i default ∈ l := by
  rw [List.getD_eq_getElem?_getD, List.getElem?_eq_getElem h]; exact List.getElem_mem h
theorem cut_facts {K : Nat → Int} {U V : List Nat} (hU : Srt K U) (hV : Srt K V) (sp : Sep U V) (s e : Nat) (hs : s ≤ U.length) (he : e ≤ V.length)
    (f1 : s = 0 ∨ e = V.length ∨ ¬ K (V.getD e default) < K (U.getD (s - 1) default)) (f2 : s = U.length ∨ e = 0 ∨ K (V.getD (e - 1) default) < K (U.getD s default)) :
    (∀ u ∈ U.take s, ∀ v ∈ V.drop e, bf K u v) ∧ (∀ v ∈ V.take e, ∀ u ∈ U.drop s, bf K v u) := by
  refine ⟨fun u hu v hv => ?_, fun v hv u hu => ?_⟩
  · obtain ⟨i, h1, h2, rfl⟩ := mem_take_at hu
    obtain ⟨j, g1, g2, rfl⟩ := mem_drop_at hv
    rcases f1 with f | f | f
    · omega
    · omega
    · have c := (bf_of (K := K) (sp _ (getD_mem' (l := U) (i := s - 1) (by omega)) _ (getD_mem' (l := V) (i := e) (by omega)))).2.2 f
      have c1 : bf K (U.getD i default) (V.getD e default) := by
        rcases Nat.lt_or_eq_of_le (show i ≤ s - 1 by omega) with h | h
        · exact bf_trans (hU.at h (by omega)) c
        · rw [h]; exact c
      rcases Nat.lt_or_eq_of_le g1 with h | h
      · exact bf_trans c1 (hV.at h (by omega))
      · rw [← h]; exact c1
  · obtain ⟨j, g1, g2, rfl⟩ := mem_take_at hv
    obtain ⟨i, h1, h2, rfl⟩ := mem_drop_at hu
    rcases f2 with f | f | f
    · omega
    · omega
    · have c := (bf_of (K := K) (sp _ (getD_mem' (l := U) (i := s) (by omega)) _ (getD_mem' (l := V) (i := e - 1) (by omega)))).1.2 f
      have c1 : bf K (V.getD j default) (U.getD s default) := by
        rcases Nat.lt_or_eq_of_le (show j ≤ e - 1 by omega) with h | h
        · exact bf_trans (hV.at h (by omega)) c
        · rw [h]; exact c
      rcases Nat.lt_or_eq_of_le h1 with h | h
      · exact bf_trans c1 (hU.at h (by omega))
      · rw [← h]; exact c1
theorem merged {K : Nat → Int} {U1 U2 V1 V2 W1 W2 : List Nat} (hU : Srt K (U1 ++ U2)) (hV : Srt K (V1 ++ V2)) (h12 : ∀ u ∈ U1, ∀ v ∈ V2, bf K u v) (h21 : ∀ v ∈ V1, ∀ u ∈ U2, bf K v u)
    (p1 : W1.Perm (U1 ++ V1)) (p2 : W2.Perm (U2 ++ V2)) (s1 : Srt K W1) (s2 : Srt K W2) : Srt K (W1 ++ W2) ∧ (W1 ++ W2).Perm (U1 ++ U2 ++ (V1 ++ V2)) := by
  refine ⟨List.pairwise_append.2 ⟨s1, s2, fun x hx y hy => ?_⟩, ?_⟩
  · have hx := p1.mem_iff.1 hx
    have hy := p2.mem_iff.1 hy
    rcases List.mem_append.1 hx with hx | hx <;> rcases List.mem_append.1 hy with hy | hy
    · exact (List.pairwise_append.1 hU).2.2 x hx y hy
    · exact h12 x hx y hy
    · exact h21 x hx y hy
    · exact (List.pairwise_append.1 hV).2.2 x hx y hy
  · refine (p1.append p2).trans ?_
    rw [List.append_assoc, List.append_assoc]
    refine List.Perm.append_left U1 ?_
    rw [← List.append_assoc, ← List.append_assoc]
    exact List.Perm.append_right V2 List.perm_append_comm
/-- an element put in ahead of those that are behind it -/
theorem put_left {K : Nat → Int} {u : Nat} {V : List Nat} (hV : Srt K V) (sp : ∀ v ∈ V, u < v) (e : Nat) (he : e ≤ V.length) (f1 : e = V.length ∨ ¬ K (V.getD e default) < K u) (f2 : e = 0 ∨ K (V.getD (e - 1) default) < K u) :
    Srt K (V.take e ++ u :: V.drop e) := by
  have h := cut_facts (K := K) (U := [u]) (V := V) (List.pairwise_singleton ..) hV (fun x hx => by rw [List.mem_singleton.1 hx]; exact sp) 1 e (Nat.le_refl _) he (.inr (f1.imp id id)) (.inl rfl)
  have h' := cut_facts (K := K) (U := [u]) (V := V) (List.pairwise_singleton ..) hV (fun x hx => by rw [List.mem_singleton.1 hx]; exact sp) 0 e (Nat.zero_le _) he (.inl rfl) (.inr (f2.imp id id))
  refine List.pairwise_append.2 ⟨hV.sublist (List.take_sublist ..), List.pairwise_cons.2 ⟨fun v hv => h.1 u (List.mem_singleton.2 rfl) v hv, hV.sublist (List.drop_sublist ..)⟩, fun v hv w hw => ?_⟩
  rcases List.mem_cons.1 hw with rfl | hw
  · exact h'.2 v hv w (List.mem_singleton.2 rfl)
  · rw [← List.take_append_drop e V] at hV
    exact (List.pairwise_append.1 hV).2.2 v hv w hw
theorem put_right {K : Nat → Int} {v : Nat} {U : List Nat} (hU : Srt K U) (sp : ∀ u ∈ U, u < v) (s : Nat) (hs : s ≤ U.length) (f1 : s = 0 ∨ ¬ K v < K (U.getD (s - 1) default)) (f2 : s = U.length ∨ K v < K (U.getD s default)) :
    Srt K (U.take s ++ v :: U.drop s) := by
  have sp' : Sep U [v] := fun u hu x hx => by rw [List.mem_singleton.1 hx]; exact sp u hu
  have h := cut_facts (K := K) (U := U) (V := [v]) hU (List.pairwise_singleton ..) sp' s 0 hs (Nat.zero_le _) (f1.imp id .inr) (.inr (.inl rfl))
  have h' := cut_facts (K := K) (U := U) (V := [v]) hU (List.pairwise_singleton ..) sp' s 1 hs (Nat.le_refl _) (.inr (.inl rfl)) (f2.imp id .inr)
  refine List.pairwise_append.2 ⟨hU.sublist (List.take_sublist ..), List.pairwise_cons.2 ⟨fun u hu => h'.2 v (List.mem_singleton.2 rfl) u hu, hU.sublist (List.drop_sublist ..)⟩, fun u hu w hw => ?_⟩
  rcases List.mem_cons.1 hw with rfl | hw
  · exact h.1 u hu w (List.mem_singleton.2 rfl)
  · rw [← List.take_append_drop s U] at hU
    exact (List.pairwise_append.1 hU).2.2 u hu w hw
theorem ext_getD {l m : List Nat} (hl : l.length = m.length) (h : ∀ k, k < l.length → l.getD k default = m.getD k default) : l = m := by
  refine List.ext_getElem hl fun k h1 h2 => ?_
  have := h k h1
  rw [List.getD_eq_getElem?_getD, List.getD_eq_getElem?_getD, List.getElem?_eq_getElem h1, List.getElem?_eq_getElem h2] at this
  exact this
/-- two pieces of a row change places, so far -/
structure Swg (D E : List Nat) (a b i : Nat) : Prop where
  len : E.length = D.length
  at_ : ∀ k, k < D.length → E.getD k default = if a ≤ k ∧ k < a + i then D.getD (k - a + b) default else if b ≤ k ∧ k < b + i then D.getD (k - b + a) default else D.getD k default
theorem Swg.start (D : List Nat) (a b : Nat) : Swg D D a b 0 := ⟨rfl, fun k hk => by rw [if_neg (by omega), if_neg (by omega)]⟩
theorem Swg.step {D E : List Nat} {a b i n : Nat} (h : Swg D E a b i) (hi : i < n) (hab : a + n ≤ b) (hb : b + n ≤ D.length) : Swg D (huff.swp E (a + i) (b + i)) a b (i + 1) := by
  have hl := h.len
  refine ⟨by rw [huff.swp_len]; exact hl, fun k hk => ?_⟩
  rw [huff.swp_at _ _ _ _ (by omega) (by omega), h.at_ (b + i) (by omega), h.at_ (a + i) (by omega), h.at_ k hk]
  by_cases c1 : k = a + i
  · subst c1
    rw [if_pos rfl, if_neg (by omega), if_neg (by omega), if_pos (by omega)]
    congr 1; omega
  · rw [if_neg c1]
    by_cases c2 : k = b + i
    · subst c2
      rw [if_pos rfl, if_neg (by omega), if_neg (by omega), if_neg (by omega), if_pos (by omega)]
      congr 1; omega
    · rw [if_neg c2]
      by_cases c3 : a ≤ k ∧ k < a + i
      · rw [if_pos c3, if_pos (by omega)]
      · rw [if_neg c3, if_neg (show ¬ (a ≤ k ∧ k < a + (i + 1)) by omega)]
        by_cases c4 : b ≤ k ∧ k < b + i
        · rw [if_pos c4, if_pos (show b ≤ k ∧ k < b + (i + 1) by omega)]
        · rw [if_neg c4, if_neg (show ¬ (b ≤ k ∧ k < b + (i + 1)) by omega)]
theorem getD_app (l m : List Nat) (k : Nat) : (l ++ m).getD k default = if k < l.length then l.getD k default else m.getD (k - l.length) default := by
  by_cases h : k < l.length
  · rw [if_pos h, List.getD_eq_getElem?_getD, List.getElem?_append_left h, List.getD_eq_getElem?_getD]
  · rw [if_neg h, List.getD_eq_getElem?_getD, List.getElem?_append_right (by omega), List.getD_eq_getElem?_getD]
theorem Swg.done {P X M Y Q E : List Nat} {a b n : Nat} (hX : X.length = n) (hY : Y.length = n) (ha : P.length = a) (hb : a + n + M.length = b) (h : Swg (P ++ (X ++ (M ++ (Y ++ Q)))) E a b n) : E = P ++ (Y ++ (M ++ (X ++ Q))) := by
  have hl := h.len
  refine ext_getD (by rw [hl]; simp only [List.length_append]; omega) fun k hk => ?_
  have hk2 : k < (P ++ (X ++ (M ++ (Y ++ Q)))).length := by omega
  rw [h.at_ k hk2]
  simp only [List.length_append] at hk2
  simp only [getD_app, hX, hY, ha]
  by_cases c1 : k < a
  · rw [if_neg (by omega), if_neg (by omega), if_pos c1, if_pos c1]
  · by_cases c2 : k < a + n
    · rw [if_pos (by omega), if_neg (by omega), if_neg (by omega), if_neg (by omega), if_pos (by omega), if_neg c1, if_pos (by omega)]
      congr 1; omega
    · rw [if_neg (by omega)]
      by_cases c3 : k < b
      · rw [if_neg (by omega), if_neg c1, if_neg (by omega), if_pos (by omega), if_neg c1, if_neg (by omega), if_pos (by omega)]
      · by_cases c4 : k < b + n
        · rw [if_pos (by omega), if_neg (by omega), if_pos (by omega), if_neg c1, if_neg (by omega), if_neg (by omega), if_pos (by omega)]
          congr 1; omega
        · rw [if_neg (by omega), if_neg c1, if_neg (by omega), if_neg (by omega), if_neg (by omega), if_neg c1, if_neg (by omega), if_neg (by omega), if_neg (by omega)]
end sort
end Go.Proofs.Ytfkgchdbjfbdaaa
