/-
  CODES GIVEN OUT ONE BY ONE, IN PLAIN LEAN. No program in sight.
-/
import Derived.Test.YtfkgchdbjfbdaaaCodeP
import Derived.Test.YtfkgchdbjfbdaaaSortP
namespace Go.Proofs.Ytfkgchdbjfbdaaa
set_option linter.unusedVariables false
namespace huff
structure Cds (L : Nat → Nat) (N : Nat) (O : List Nat) (i nx long : Nat) (out : Nat → Nat) : Prop where
  nx : nx * 2 ^ (40 - long) = ((O.take i).map fun k => 2 ^ (40 - L k)).sum
  long : ∀ k, i ≤ k → k < O.length → long ≤ L (O.getD k default)
  done : ∀ k, k < i → out (O.getD k default) * 2 ^ (40 - L (O.getD k default)) = W L N (O.getD k default)
  zero : ∀ s, s < N → L s = 0 → out s = 0
theorem Cds.start (L : Nat → Nat) (N : Nat) (O : List Nat) : Cds L N O 0 0 0 (fun _ => 0) :=
  ⟨by rw [List.take_zero, Nat.zero_mul]; rfl, fun _ _ _ => Nat.zero_le _, fun k h => absurd h (Nat.not_lt_zero _), fun _ _ _ => rfl⟩
theorem Cds.congr {L : Nat → Nat} {N : Nat} {O : List Nat} {i nx long : Nat} {out out' : Nat → Nat} (h : Cds L N O i nx long out) (hO : ∀ k, k < O.length → O.getD k default < N) (hi : i ≤ O.length) (e : ∀ s, s < N → out s = out' s) : Cds L N O i nx long out' :=
  ⟨h.nx, h.long, fun k hk => by rw [← e _ (hO k (by omega))]; exact h.done k hk, fun s hs h0 => by rw [← e s hs]; exact h.zero s hs h0⟩
theorem Cds.next {L : Nat → Nat} {N : Nat} {O : List Nat} {i nx long : Nat} {out : Nat → Nat} (h : Cds L N O i nx long out) (hp : O.Perm (sup L N)) (hs : O.Pairwise (ahead L)) (m : May L N) (hi : i < O.length) :
    long ≤ L (O.getD i default) ∧ L (O.getD i default) ≤ 40 ∧ nx * 2 ^ (L (O.getD i default) - long) ≤ 2 ^ 40 ∧ Cds L N O (i + 1) (nx * 2 ^ (L (O.getD i default) - long) + 1) (L (O.getD i default)) (fun k => if k = O.getD i default then nx * 2 ^ (L (O.getD i default) - long) else out k) := by
  obtain ⟨s, hse⟩ : ∃ s, O.getD i default = s := ⟨_, rfl⟩
  have hle := h.long i (Nat.le_refl _) hi
  rw [hse] at hle ⊢
  have hmem : s ∈ O := by rw [← hse]; exact sort.getD_mem' hi
  obtain ⟨hsN, hs0⟩ := mem_sup.1 (hp.mem_iff.1 hmem)
  have h40 := m.le s hsN
  have hcut : O = O.take i ++ s :: O.drop (i + 1) := by
    have : O[i] = s := by rw [← hse, List.getD_eq_getElem?_getD, List.getElem?_eq_getElem hi]; rfl
    rw [← this, List.getElem_cons_drop, List.take_append_drop]
  have hW := W_ord (L := L) (N := N) (A := O.take i) (B := O.drop (i + 1)) (i := s) (by rw [← hcut]; exact hp) (by rw [← hcut]; exact hs)
  have hnx : nx * 2 ^ (L s - long) * 2 ^ (40 - L s) = W L N s := by
    rw [Nat.mul_assoc, ← Nat.pow_add, show L s - long + (40 - L s) = 40 - long by omega, h.nx, hW]
  have htop := W_top m hsN hs0
  have hp2 : 0 < 2 ^ (40 - L s) := Nat.pow_pos (by decide)
  refine ⟨hle, h40, ?_, ?_, ?_, ?_, ?_⟩
  · have h1 := Nat.le_mul_of_pos_right (nx * 2 ^ (L s - long)) hp2
    omega
  · rw [Nat.add_mul, hnx, hW, Nat.one_mul, List.take_succ_eq_append_getElem hi, List.map_append, List.sum_append]
    have : O[i] = s := by rw [← hse, List.getD_eq_getElem?_getD, List.getElem?_eq_getElem hi]; rfl
    rw [this]; simp
  · intro k hk hk2
    have := List.pairwise_iff_getElem.1 hs i k hi hk2 (by omega)
    have e1 : O[i] = s := by rw [← hse, List.getD_eq_getElem?_getD, List.getElem?_eq_getElem hi]; rfl
    have e2 : O.getD k default = O[k] := by rw [List.getD_eq_getElem?_getD, List.getElem?_eq_getElem hk2]; rfl
    rw [e1] at this
    rw [e2]
    unfold ahead at this
    omega
  · intro k hk
    by_cases c : k = i
    · subst c
      rw [hse, if_pos rfl, hnx]
    · have hne : O.getD k default ≠ s := fun e => by
        have := List.pairwise_iff_getElem.1 hs k i (by omega) hi (by omega)
        have e1 : O[i] = s := by rw [← hse, List.getD_eq_getElem?_getD, List.getElem?_eq_getElem hi]; rfl
        have e2 : O.getD k default = O[k] := by rw [List.getD_eq_getElem?_getD, List.getElem?_eq_getElem (by omega)]; rfl
        rw [e1, ← e2, e] at this
        unfold ahead at this
        omega
      rw [if_neg hne]
      exact h.done k (by omega)
  · intro k hk h0
    have : k ≠ s := fun e => by rw [e] at h0; omega
    rw [if_neg this]
    exact h.zero k hk h0
theorem Cds.coded {L : Nat → Nat} {N : Nat} {O : List Nat} {nx long : Nat} {out : Nat → Nat} (h : Cds L N O O.length nx long out) (hp : O.Perm (sup L N)) : Coded L out N :=
  ⟨h.zero, fun i hi h0 => by
    have : i ∈ O := hp.mem_iff.2 (mem_sup.2 ⟨hi, h0⟩)
    obtain ⟨k, hk, rfl⟩ := List.getElem_of_mem this
    have e : O.getD k default = O[k] := by rw [List.getD_eq_getElem?_getD, List.getElem?_eq_getElem hk]; rfl
    have := h.done k hk
    rw [e] at this
    exact this⟩
end huff
end Go.Proofs.Ytfkgchdbjfbdaaa
