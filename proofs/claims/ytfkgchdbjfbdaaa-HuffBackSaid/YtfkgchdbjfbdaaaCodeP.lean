/-
  CODES OF LENGTHS, IN PLAIN LEAN: none begins another one; their order; a symbol is found where its code ends. No program in sight.
-/
import Derived.Test.YtfkgchdbjfbdaaaHuffQ
namespace Go.Proofs.Ytfkgchdbjfbdaaa
set_option linter.unusedVariables false
namespace huff
/-- ahead in the order of codes -/
def ahead (L : Nat → Nat) (k i : Nat) : Prop := L k < L i ∨ (L k = L i ∧ k < i)
instance (L : Nat → Nat) (k i : Nat) : Decidable (ahead L k i) := inferInstanceAs (Decidable (_ ∨ _))
/-- what stands ahead of a symbol -/
def W (L : Nat → Nat) (N i : Nat) : Nat := sumTo (fun k => if L k = 0 then 0 else if ahead L k i then 2 ^ (40 - L k) else 0) N
structure May (L : Nat → Nat) (N : Nat) : Prop where
  le : ∀ i, i < N → L i ≤ 40
  kr : sumTo (fun k => if L k = 0 then 0 else 2 ^ (40 - L k)) N ≤ 2 ^ 40
structure Coded (L cs : Nat → Nat) (N : Nat) : Prop where
  none : ∀ i, i < N → L i = 0 → cs i = 0
  some : ∀ i, i < N → 0 < L i → cs i * 2 ^ (40 - L i) = W L N i
theorem Good.may {c own : Nat → Nat} {N : Nat} (g : Good c own N) (hN : N ≤ 41) : May own N := by
  refine ⟨fun i hi => ?_, ?_⟩
  · rcases Nat.eq_zero_or_pos (c i) with h | h
    · rw [g.none i hi h]; omega
    · have := g.some i hi h
      have := sup_len (c := c) (n := N)
      omega
  · have := g.kr (D := 40) (by omega)
    rw [sumTo_congr (g := fun k => if c k = 0 then 0 else 2 ^ (40 - own k)) (fun k hk => by
      by_cases h : c k = 0
      · rw [if_pos h, if_pos (g.none k hk h)]
      · rw [if_neg h, if_neg (by have := g.some k hk (by omega); omega)])]
    exact this
theorem sumTo_one (i a : Nat) {n : Nat} (h : i < n) : sumTo (fun j => if j = i then a else 0) n = a := by
  have := sumTo_if (fun _ => 0) i a n h
  rw [sumTo_zero] at this; omega
theorem W_step {L : Nat → Nat} {N i k : Nat} (hi : i < N) (h0 : 0 < L i) (h : ahead L i k) : W L N i + 2 ^ (40 - L i) ≤ W L N k := by
  unfold W
  rw [← sumTo_one i (2 ^ (40 - L i)) hi, ← sumTo_add]
  refine sumTo_le fun j hj => ?_
  by_cases c : j = i
  · subst c
    have : ¬ ahead L j j := fun h => by rcases h with h | h <;> omega
    rw [if_neg (by omega), if_neg this, if_pos rfl, if_neg (by omega), if_pos h]; omega
  · rw [if_neg c]
    by_cases z : L j = 0
    · rw [if_pos z, if_pos z]; exact Nat.le_refl _
    · rw [if_neg z, if_neg z]
      by_cases a : ahead L j i
      · have : ahead L j k := by
          unfold ahead at a h ⊢
          omega
        rw [if_pos a, if_pos this]; exact Nat.le_refl _
      · rw [if_neg a]; exact Nat.zero_le _
theorem W_top {L : Nat → Nat} {N i : Nat} (m : May L N) (hi : i < N) (h0 : 0 < L i) : W L N i + 2 ^ (40 - L i) ≤ 2 ^ 40 := by
  refine Nat.le_trans ?_ m.kr
  unfold W
  rw [← sumTo_one i (2 ^ (40 - L i)) hi, ← sumTo_add]
  refine sumTo_le fun j hj => ?_
  by_cases c : j = i
  · subst c
    have : ¬ ahead L j j := fun h => by rcases h with h | h <;> omega
    rw [if_neg (by omega), if_neg this, if_pos rfl, if_neg (by omega)]; omega
  · rw [if_neg c]
    by_cases z : L j = 0
    · rw [if_pos z, if_pos z]; exact Nat.le_refl _
    · rw [if_neg z, if_neg z]
      by_cases a : ahead L j i
      · rw [if_pos a]; exact Nat.le_refl _
      · rw [if_neg a]; exact Nat.zero_le _
/-- what stands ahead, in their order -/
theorem W_ord {L : Nat → Nat} {N : Nat} {A B : List Nat} {i : Nat} (hp : (A ++ i :: B).Perm (sup L N)) (hs : (A ++ i :: B).Pairwise (ahead L)) : W L N i = (A.map fun k => 2 ^ (40 - L k)).sum := by
  have h := sup_sum (c := L) (fun k => if ahead L k i then 2 ^ (40 - L k) else 0) N
  have e : W L N i = ((sup L N).map fun k => if ahead L k i then 2 ^ (40 - L k) else 0).sum := h.symm
  rw [e, ← sum_perm (hp.map _), List.map_append, List.sum_append]
  obtain ⟨_, h2, h3⟩ := List.pairwise_append.1 hs
  have e1 : A.map (fun k => if ahead L k i then 2 ^ (40 - L k) else 0) = A.map fun k => 2 ^ (40 - L k) :=
    List.map_congr_left fun k hk => if_pos (h3 k hk i (List.mem_cons_self ..))
  have irr : ∀ j, ¬ ahead L j j := fun j h => by unfold ahead at h; omega
  have e2 : ∀ l : List Nat, (∀ k ∈ l, ¬ ahead L k i) → (l.map fun k => if ahead L k i then 2 ^ (40 - L k) else 0).sum = 0 := by
    intro l
    induction l with
    | nil => intro _; rfl
    | cons x l ih =>
      intro hl
      rw [List.map_cons, List.sum_cons, if_neg (hl x (List.mem_cons_self ..)), ih (fun k hk => hl k (List.mem_cons_of_mem _ hk))]
  rw [e1, e2 (i :: B) (fun k hk => ?_)]
  · rfl
  · rcases List.mem_cons.1 hk with rfl | hk
    · exact irr _
    · have := (List.pairwise_cons.1 h2).1 k hk
      intro h'
      unfold ahead at this h'
      omega
theorem Coded.lt {L cs : Nat → Nat} {N i : Nat} (g : Coded L cs N) (m : May L N) (hi : i < N) : cs i < 2 ^ L i := by
  rcases Nat.eq_zero_or_pos (L i) with h | h
  · rw [g.none i hi h, h]; decide
  · have h1 := W_top m hi h
    rw [← g.some i hi h] at h1
    have hle := m.le i hi
    have e : 2 ^ 40 = 2 ^ L i * 2 ^ (40 - L i) := by rw [← Nat.pow_add]; congr 1; omega
    rw [e] at h1
    have hp : 0 < 2 ^ (40 - L i) := Nat.pow_pos (by decide)
    refine Nat.lt_of_mul_lt_mul_right (a := 2 ^ (40 - L i)) ?_
    omega
/-- the beginning of a longer code, against a shorter one -/
theorem cut_code {L cs : Nat → Nat} {N i k : Nat} (g : Coded L cs N) (m : May L N) (hi : i < N) (hk : k < N) (h0 : 0 < L i) (hl : L i ≤ L k) (hne : i ≠ k) :
    (ahead L i k → cs i < cs k / 2 ^ (L k - L i)) ∧ (¬ ahead L i k → L i = L k ∧ cs k < cs i) := by
  have hk40 := m.le k hk
  have hd : 0 < 2 ^ (L k - L i) := Nat.pow_pos (by decide)
  have e : 2 ^ (40 - L i) = 2 ^ (L k - L i) * 2 ^ (40 - L k) := by rw [← Nat.pow_add]; congr 1; omega
  have hp : 0 < 2 ^ (40 - L k) := Nat.pow_pos (by decide)
  refine ⟨fun h => ?_, fun h => ?_⟩
  · have h1 := W_step hi h0 h
    rw [← g.some i hi h0, ← g.some k hk (by omega), e, ← Nat.mul_assoc, ← Nat.add_mul] at h1
    have h2 := Nat.le_of_mul_le_mul_right h1 hp
    rw [show cs i * 2 ^ (L k - L i) + 2 ^ (L k - L i) = (cs i + 1) * 2 ^ (L k - L i) by rw [Nat.add_mul, Nat.one_mul]] at h2
    exact (Nat.le_div_iff_mul_le hd).2 h2
  · have hki : ahead L k i := by unfold ahead at h ⊢; omega
    have he : L i = L k := by unfold ahead at hki; omega
    have h1 := W_step hk (by omega) hki
    rw [← g.some i hi h0, ← g.some k hk (by omega), he, ← Nat.succ_mul] at h1
    exact ⟨he, Nat.le_of_mul_le_mul_right h1 hp⟩
theorem apart {L cs : Nat → Nat} {N i k : Nat} (g : Coded L cs N) (m : May L N) (hi : i < N) (hk : k < N) (h0 : 0 < L i) (hl : L i ≤ L k) (hne : i ≠ k) : cs k / 2 ^ (L k - L i) ≠ cs i := by
  obtain ⟨a, b⟩ := cut_code g m hi hk h0 hl hne
  by_cases h : ahead L i k
  · have := a h; omega
  · obtain ⟨e, c⟩ := b h
    rw [e, Nat.sub_self, Nat.pow_zero, Nat.div_one]; omega
theorem same_len {L cs : Nat → Nat} {N i k : Nat} (g : Coded L cs N) (m : May L N) (hi : i < N) (hk : k < N) (h0 : 0 < L i) (hl : L i = L k) : (i < k ↔ cs i < cs k) := by
  by_cases hne : i = k
  · subst hne; omega
  · obtain ⟨a, b⟩ := cut_code g m hi hk h0 (Nat.le_of_eq hl) hne
    rw [hl, Nat.sub_self, Nat.pow_zero, Nat.div_one] at a
    by_cases h : ahead L i k
    · have := a h
      unfold ahead at h; omega
    · have := (b h).2
      unfold ahead at h; omega
theorem shorter {L cs : Nat → Nat} {N i k : Nat} (g : Coded L cs N) (m : May L N) (hi : i < N) (hk : k < N) (h0 : 0 < L i) (hl : L i < L k) : cs i < cs k / 2 ^ (L k - L i) :=
  (cut_code g m hi hk h0 (Nat.le_of_lt hl) (fun e => by rw [e] at hl; omega)).1 (.inl hl)
/-- the number that bits are, from a place on -/
def pv (bit : Nat → Nat) (at_ : Nat) : Nat → Nat
  | 0 => 0
  | j + 1 => 2 * pv bit at_ j + bit (at_ + j)
theorem pv_cut {bit : Nat → Nat} (hb : ∀ i, bit i < 2) (at_ : Nat) : ∀ (d j : Nat), pv bit at_ j = pv bit at_ (j + d) / 2 ^ d
  | 0, j => by simp
  | d + 1, j => by
    have h := pv_cut hb at_ d (j + 1)
    rw [show j + (d + 1) = j + 1 + d by omega, Nat.pow_succ, ← Nat.div_div_eq_div_mul, ← h, pv]
    have := hb (at_ + j)
    omega
/-- the symbol is found where its code ends, and not ahead of that -/
theorem found {L cs : Nat → Nat} {N s : Nat} (g : Coded L cs N) (m : May L N) {bit : Nat → Nat} (hb : ∀ i, bit i < 2) {at_ : Nat} (hs : s < N) (h0 : 0 < L s) (h : pv bit at_ (L s) = cs s) :
    (∀ j, j < L s → ∀ u, u < N → 0 < L u → ¬ (L u = j ∧ cs u = pv bit at_ j)) ∧ (∀ u, u < N → 0 < L u → L u = L s → cs u = cs s → u = s) := by
  refine ⟨fun j hj u hu hu0 ⟨e1, e2⟩ => ?_, fun u hu hu0 e1 e2 => ?_⟩
  · have := pv_cut hb at_ (L s - j) j
    rw [show j + (L s - j) = L s by omega, h, ← e2, ← e1] at this
    exact apart g m hu hs hu0 (by omega) (fun e => by rw [e] at e1; omega) this.symm
  · by_cases c : u = s
    · exact c
    · exfalso
      have := apart g m hu hs hu0 (Nat.le_of_eq e1) c
      rw [e1, Nat.sub_self, Nat.pow_zero, Nat.div_one] at this
      exact this e2.symm
end huff
end Go.Proofs.Ytfkgchdbjfbdaaa
