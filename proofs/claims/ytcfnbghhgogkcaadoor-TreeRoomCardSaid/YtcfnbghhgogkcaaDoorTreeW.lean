/-
  PLAIN LAWS of a tree of files: there is room for so many nodes.
-/
import Derived.Test.YtcfnbghhgogkcaaDoorTreeV
namespace Go.Proofs.YtcfnbghhgogkcaaDoor
set_option linter.unusedVariables false
set_option linter.unusedSimpArgs false
namespace tree
open path
def abc : List UInt8 := [97, 98, 99, 100, 101, 102, 103, 104, 105, 106, 107, 108, 109, 110, 111, 112, 113, 114, 115, 116, 117, 118, 119, 120, 121, 122]
theorem abc_at : ∀ a < 26, (abc.getD a 0).toNat = 97 + a := by decide
theorem abc_cut : ∀ a < 26, (abc.drop a).take (a + 1 - a) = [abc.getD a 0] := by decide
def zN (i : Nat) : Nm := [122, abc.getD (i % 26) 0, abc.getD (i / 26) 0]
theorem zN_inj {i j : Nat} (hi : i < 60) (hj : j < 60) (h : zN i = zN j) : i = j := by
  unfold zN at h
  have h1 := (List.cons.inj (List.cons.inj h).2).1
  have h2 := (List.cons.inj (List.cons.inj (List.cons.inj h).2).2).1
  have a1 := abc_at (i % 26) (by omega)
  have a2 := abc_at (j % 26) (by omega)
  have b1 := abc_at (i / 26) (by omega)
  have b2 := abc_at (j / 26) (by omega)
  rw [h1] at a1
  rw [h2] at b1
  omega
theorem zN_abcd {i : Nat} : ¬ zN i ∈ abcd := fun h => by
  have : ∀ s ∈ abcd, s.length = 1 := by decide
  exact absurd (this _ h) (by decide : ¬ (3 : Nat) = 1)
def zzz : Nm := [122, 122, 122]
theorem zN_zzz {i : Nat} (hi : i < 60) : ¬ zN i = zzz := fun h => by
  unfold zN zzz at h
  have h2 := (List.cons.inj (List.cons.inj (List.cons.inj h).2).2).1
  have b1 := abc_at (i / 26) (by omega)
  rw [h2] at b1
  have : (122 : UInt8).toNat = 122 := rfl
  omega
theorem zN_zz {i : Nat} : ¬ zN i = zz := fun h => absurd (congrArg List.length h) (by decide : ¬ (3 : Nat) = 2)
set_option maxRecDepth 100000 in
theorem walk_zN : ∀ i < 60, walkF [] (47 :: zN i) = ([zN i], 0) := by decide
theorem walk_zzz : walkF [] (47 :: zzz) = ([zzz], 0) := by decide
def mkA (i : Nat) : Ac := ⟨2, 47 :: zN i, [], 0, 0, []⟩
def dirA (p : Nm) : Ac := ⟨1, p, [], 0, 0, []⟩
theorem do_mk (t : Tr) {i : Nat} (hi : i < 60) : doF t (mkA i) = ((makeF t [zN i] (.file [])).2, no (makeF t [zN i] (.file [])).1) := by
  unfold doF mkA
  simp only
  rw [if_neg (by decide), if_neg (fun h => by have := h.1; omega), walk_zN i hi, if_neg (fun h => h rfl), if_neg (by decide), if_pos True.intro]
theorem do_dir (t : Tr) {x : Nm} (hw : walkF [] (47 :: x) = ([x], 0)) : doF t (dirA (47 :: x)) = ((makeF t [x] (.dir [])).2, no (makeF t [x] (.dir [])).1) := by
  unfold doF dirA
  simp only
  rw [if_neg (by decide), if_neg (fun h => by have := h.1; omega), hw, if_neg (fun h => h rfl), if_pos True.intro]
theorem do_rm (t : Tr) {x : Nm} (hw : walkF [] (47 :: x) = ([x], 0)) : doF t (rmA (47 :: x)) = ((removeF t [x]).2, no (removeF t [x]).1) := by
  unfold doF rmA
  simp only
  rw [if_neg (by decide), if_neg (fun h => by have := h.1; omega), hw, if_neg (fun h => h rfl), if_neg (by decide), if_neg (by decide), if_neg (by decide), if_pos True.intro]
/-- so many of the new names are made -/
def RQ (t : Tr) (c : Int) (i : Nat) : Prop := t.count = c + i ∧ ∃ l, t.nd 0 = .dir l ∧ (∀ k j, (k, j) ∈ l → k ∈ abcd ∨ ∃ q, q < i ∧ k = zN q) ∧ (0 < i → ∃ j, ent l (zN (i - 1)) = some j ∧ t.names j = [])
theorem RQ.free {t : Tr} {c : Int} {i i' : Nat} {l : List (Nm × Nat)} (hl : ∀ k j, (k, j) ∈ l → k ∈ abcd ∨ ∃ q, q < i ∧ k = zN q) (h : i ≤ i') (hi : i' < 60) : ent l (zN i') = none := ent_none.2 fun j hj => by
  rcases hl _ _ hj with h1 | ⟨q, hq, h1⟩
  · exact zN_abcd h1
  · have := zN_inj hi (by omega) h1; omega
theorem RQ.full {t : Tr} {c : Int} {i i' : Nat} (h : RQ t c i) (hii : i ≤ i') (hi : i' < 60) (hc : t.count = 40) : doF t (mkA i') = (t, no 9) := by
  obtain ⟨h1, l, h2, h3, h4⟩ := h
  rw [do_mk t hi, make_one h2 (RQ.free (t := t) (c := c) h3 hii hi), if_pos hc]
theorem RQ.step {t : Tr} {c : Int} {i : Nat} (k : TrOk t) (h : RQ t c i) (hi : i < 60) (hc : ¬ t.count = 40) : (doF t (mkA i)).2.code = 0 ∧ RQ (doF t (mkA i)).1 c (i + 1) := by
  obtain ⟨h1, l, h2, h3, h4⟩ := h
  have hfree := RQ.free (t := t) (c := c) h3 (Nat.le_refl _) hi
  rw [do_mk t hi, make_one h2 hfree, if_neg hc]
  refine ⟨rfl, ?_⟩
  have hpos := k.pos
  have hl1 : (t.ns.set 0 (.dir (l ++ [(zN i, t.ns.length)]))).length = t.ns.length := List.length_set ..
  refine ⟨show t.count + 1 = _ by omega, l ++ [(zN i, t.ns.length)], ?_, ?_, fun _ => ⟨t.ns.length, ?_, ?_⟩⟩
  · have := nd_snoc ⟨t.ns.set 0 (.dir (l ++ [(zN i, t.ns.length)])), t.count⟩ (.file []) (t.count + 1) 0
    simp only [hl1] at this
    rw [this, if_neg (by omega), nd_set, if_pos ⟨rfl, hpos⟩]
  · intro k j hk
    rcases List.mem_append.1 hk with hk | hk
    · rcases h3 k j hk with h | ⟨q, hq, h⟩
      · exact .inl h
      · exact .inr ⟨q, by omega, h⟩
    · rw [List.mem_singleton] at hk
      exact .inr ⟨i, by omega, (Prod.mk.inj hk).1⟩
  · rw [Nat.add_sub_cancel, ent_snoc, hfree]; exact if_pos rfl
  · have := nd_snoc ⟨t.ns.set 0 (.dir (l ++ [(zN i, t.ns.length)])), t.count⟩ (.file []) (t.count + 1) t.ns.length
    simp only [hl1] at this
    unfold Tr.names
    rw [this, if_pos True.intro]
theorem room_runs {c : Int} {m : Nat} (hcm : c + m = 40) : ∀ (k s : Nat) (t : Tr), TrOk t → Cnt t → RQ t c (min s m) → s + k ≤ 60 → (∀ i, i < k → ((runs t ((List.range' s k).map mkA)).getD i default).code = if s + i < m then 0 else 9) ∧ TrOk (ends t ((List.range' s k).map mkA)) ∧ Cnt (ends t ((List.range' s k).map mkA)) ∧ RQ (ends t ((List.range' s k).map mkA)) c (min (s + k) m)
  | 0, s, t, hk, hC, hR, _ => ⟨fun i hi => absurd hi (by omega), hk, hC, hR⟩
  | k + 1, s, t, hk, hC, hR, hs => by
    have e : (List.range' s (k + 1)).map mkA = mkA s :: (List.range' (s + 1) k).map mkA := rfl
    rw [e]
    have hst := hk.do_ hC (mkA s)
    have key : (doF t (mkA s)).2.code = (if s < m then 0 else 9) ∧ RQ (doF t (mkA s)).1 c (min (s + 1) m) := by
      by_cases c1 : s < m
      · have hmn : min s m = s := by omega
        rw [hmn] at hR
        have := hR.step hk (by omega) (by have := hR.1; omega)
        rw [if_pos c1, show min (s + 1) m = s + 1 by omega]
        exact this
      · have hmn : min s m = m := by omega
        rw [hmn] at hR
        rw [hR.full (i' := s) (by omega) (by omega) (by have := hR.1; omega), if_neg c1, show min (s + 1) m = m by omega]
        exact ⟨rfl, hR⟩
    obtain ⟨r1, r2, r3, r4⟩ := room_runs hcm k (s + 1) (doF t (mkA s)).1 hst.1 hst.2 key.2 (by omega)
    refine ⟨fun i hi => ?_, r2, r3, ?_⟩
    · match i with
      | 0 => exact key.1
      | i + 1 =>
        have := r1 i (by omega)
        rw [show s + 1 + i = s + (i + 1) by omega] at this
        exact this
    · rw [show s + 1 + k = s + (k + 1) by omega] at r4
      exact r4
/-- what is full has room for one more when one is removed -/
theorem room_more {t : Tr} {c : Int} {m : Nat} (k : TrOk t) (h : RQ t c m) (hcm : c + m = 40) (hm : 1 ≤ m ∧ m ≤ 60) :
    (doF t (rmA (47 :: zN (m - 1)))).2.code = 0 ∧ (doF (doF t (rmA (47 :: zN (m - 1)))).1 (dirA (47 :: zz))).2.code = 0 ∧ (doF (doF (doF t (rmA (47 :: zN (m - 1)))).1 (dirA (47 :: zz))).1 (dirA (47 :: zzz))).2.code = 9 := by
  obtain ⟨h1, l, h2, h3, h4⟩ := h
  obtain ⟨j, h5, h6⟩ := h4 (by omega)
  have hpos := k.pos
  rw [do_rm t (walk_zN (m - 1) (by omega)), remove_one h2 h5 h6]
  refine ⟨rfl, ?_⟩
  simp only
  obtain ⟨l', hl'⟩ : ∃ l' : List (Nm × Nat), l.filter (fun e => decide (¬ e.1 = zN (m - 1))) = l' := ⟨_, rfl⟩
  have hsub : ∀ k j, (k, j) ∈ l' → k ∈ abcd ∨ ∃ q, q < m ∧ k = zN q := fun k j hk => by
    rw [← hl'] at hk
    exact h3 k j (List.mem_filter.1 hk).1
  rw [hl']
  have n0 : (⟨t.ns.set 0 (.dir l'), t.count - 1⟩ : Tr).nd 0 = .dir l' := by rw [nd_set, if_pos ⟨rfl, hpos⟩]
  have hz : ent l' zz = none := ent_none.2 fun j hj => by
    rcases hsub _ _ hj with h | ⟨q, hq, h⟩
    · exact absurd h (by decide)
    · exact zN_zz h.symm
  rw [do_dir _ walk_zz, make_one n0 hz, if_neg (show ¬ t.count - 1 = 40 by omega)]
  refine ⟨rfl, ?_⟩
  simp only
  have hl1 : (t.ns.set 0 (.dir l')).length = t.ns.length := List.length_set ..
  have hl2 : ((t.ns.set 0 (.dir l')).set 0 (.dir (l' ++ [(zz, (t.ns.set 0 (.dir l')).length)]))).length = t.ns.length := by rw [List.length_set, hl1]
  have n1 : (⟨(t.ns.set 0 (.dir l')).set 0 (.dir (l' ++ [(zz, (t.ns.set 0 (.dir l')).length)])) ++ [.dir []], t.count - 1 + 1⟩ : Tr).nd 0 = .dir (l' ++ [(zz, (t.ns.set 0 (.dir l')).length)]) := by
    have := nd_snoc ⟨(t.ns.set 0 (.dir l')).set 0 (.dir (l' ++ [(zz, (t.ns.set 0 (.dir l')).length)])), t.count⟩ (.dir []) (t.count - 1 + 1) 0
    simp only [hl2] at this
    rw [this, if_neg (by omega), show ((t.ns.set 0 (.dir l')).set 0 (.dir (l' ++ [(zz, (t.ns.set 0 (.dir l')).length)]))) = (Tr.ns ⟨t.ns.set 0 (.dir l'), t.count⟩).set 0 (.dir (l' ++ [(zz, (t.ns.set 0 (.dir l')).length)])) from rfl, nd_set, if_pos ⟨rfl, by rw [hl1]; exact hpos⟩]
  have hz3 : ent (l' ++ [(zz, (t.ns.set 0 (.dir l')).length)]) zzz = none := ent_none.2 fun j hj => by
    rcases List.mem_append.1 hj with hj | hj
    · rcases hsub _ _ hj with h | ⟨q, hq, h⟩
      · exact absurd h (by decide)
      · exact zN_zzz (by omega) h.symm
    · rw [List.mem_singleton] at hj
      exact absurd (Prod.mk.inj hj).1 (by decide)
  rw [do_dir _ walk_zzz, make_one n1 hz3, if_pos (show t.count - 1 + 1 = 40 by omega)]
  rfl
theorem count_make (t : Tr) (ns : List Nm) (x : Nd) : (makeF t ns x).2.count ≤ t.count + 1 := by
  unfold makeF
  split
  · exact Int.le_add_one (Int.le_refl _)
  split
  · exact Int.le_add_one (Int.le_refl _)
  · exact Int.le_refl _
theorem count_do (t : Tr) (a : Ac) : (doF t a).1.count ≤ t.count + 1 := by
  have h0 : t.count ≤ t.count + 1 := Int.le_add_one (Int.le_refl _)
  unfold doF
  split
  · exact h0
  split
  · exact h0
  split
  · exact h0
  split
  · exact count_make ..
  split
  · exact count_make ..
  split
  · exact count_make ..
  split
  · show (removeF t _).2.count ≤ _
    unfold removeF
    split
    · exact h0
    split
    · exact h0
    simp only
    split
    · exact h0
    · show t.count - 1 ≤ _; omega
  split
  · show (renameF t _ _).2.count ≤ _
    unfold renameF
    split
    · exact h0
    split
    · exact h0
    split
    · exact h0
    split
    · exact h0
    split
    · exact h0
    · exact h0
  split
  · exact h0
  · show (atF t _ a).1.count ≤ _
    unfold atF
    split
    · split
      · exact h0
      · split <;> exact h0
    · split
      · exact h0
      · split
        · exact h0
        · exact h0
    · exact h0
theorem count_ends : ∀ (l : List Ac) (t : Tr), (ends t l).count ≤ t.count + l.length
  | [], t => by show t.count ≤ t.count + 0; omega
  | a :: l, t => by
    have h1 := count_do t a
    have h2 := count_ends l (doF t a).1
    have h3 : (a :: l).length = l.length + 1 := rfl
    show (ends (doF t a).1 l).count ≤ _
    omega
theorem runs_three (t : Tr) (a b c : Ac) : runs t [a, b, c] = [(doF t a).2, (doF (doF t a).1 b).2, (doF (doF (doF t a).1 b).1 c).2] := rfl
end tree
end Go.Proofs.YtcfnbghhgogkcaaDoor
