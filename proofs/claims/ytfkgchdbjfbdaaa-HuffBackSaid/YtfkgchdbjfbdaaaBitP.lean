/-
  BITS IN BYTES, IN PLAIN LEAN: a code's bits, bytes filled bit by bit, bits read back. No program in sight.
-/
import Derived.Test.YtfkgchdbjfbdaaaCodeP
import Derived.Test.YtfkgchdbjfbdaaaSortP
namespace Go.Proofs.Ytfkgchdbjfbdaaa
set_option linter.unusedVariables false
namespace huff
theorem pv_congr {f g : Nat → Nat} {at_ : Nat} : ∀ (j : Nat), (∀ i, at_ ≤ i → i < at_ + j → f i = g i) → pv f at_ j = pv g at_ j
  | 0, _ => rfl
  | j + 1, h => by
    show 2 * pv f at_ j + f (at_ + j) = 2 * pv g at_ j + g (at_ + j)
    rw [pv_congr j (fun i h1 h2 => h i h1 (by omega)), h (at_ + j) (by omega) (by omega)]
theorem pv_zero {f : Nat → Nat} {at_ r : Nat} : ∀ (d : Nat), (∀ i, at_ + r ≤ i → i < at_ + r + d → f i = 0) → pv f at_ (r + d) = pv f at_ r * 2 ^ d
  | 0, _ => by simp
  | d + 1, h => by
    show 2 * pv f at_ (r + d) + f (at_ + (r + d)) = _
    rw [pv_zero d (fun i h1 h2 => h i h1 (by omega)), h (at_ + (r + d)) (by omega) (by omega), Nat.pow_succ, Nat.add_zero, ← Nat.mul_assoc, Nat.mul_comm 2, Nat.mul_assoc, Nat.mul_comm 2]
theorem pv_lt {f : Nat → Nat} (hf : ∀ i, f i < 2) (at_ : Nat) : ∀ j, pv f at_ j < 2 ^ j
  | 0 => by show 0 < 2 ^ 0; decide
  | j + 1 => by
    have h1 := pv_lt hf at_ j
    have h2 := hf (at_ + j)
    show 2 * pv f at_ j + f (at_ + j) < 2 ^ (j + 1)
    rw [Nat.pow_succ]; omega
theorem pv_code {f : Nat → Nat} {at_ c L : Nat} (hc : c < 2 ^ L) (h : ∀ j, j < L → f (at_ + j) = c / 2 ^ (L - 1 - j) % 2) : ∀ j, j ≤ L → pv f at_ j = c / 2 ^ (L - j)
  | 0, _ => by show 0 = _; rw [Nat.sub_zero, Nat.div_eq_of_lt hc]
  | j + 1, hj => by
    show 2 * pv f at_ j + f (at_ + j) = _
    rw [pv_code hc h j (by omega), h j (by omega), show L - (j + 1) = L - 1 - j by omega, show L - j = (L - 1 - j) + 1 by omega, Nat.pow_succ, ← Nat.div_div_eq_div_mul]
    omega
def bitL (bs : List Nat) (i : Nat) : Nat := bs.getD i default
theorem bitL_lt {bs : List Nat} (h : ∀ b ∈ bs, b < 2) (i : Nat) : bitL bs i < 2 := by
  unfold bitL
  by_cases c : i < bs.length
  · exact h _ (sort.getD_mem' c)
  · rw [List.getD_eq_getElem?_getD, List.getElem?_eq_none (by omega)]; show (0 : Nat) < 2; decide
theorem bitL_out {bs : List Nat} {i : Nat} (h : bs.length ≤ i) : bitL bs i = 0 := by
  unfold bitL
  rw [List.getD_eq_getElem?_getD, List.getElem?_eq_none h]; rfl
theorem bitL_app (bs : List Nat) (v i : Nat) : bitL (bs ++ [v]) i = if i = bs.length then v else bitL bs i := by
  unfold bitL
  rw [sort.getD_app]
  by_cases h : i < bs.length
  · rw [if_pos h, if_neg (by omega)]
  · rw [if_neg h]
    by_cases e : i = bs.length
    · rw [if_pos e, e, Nat.sub_self]; rfl
    · rw [if_neg e, List.getD_eq_getElem?_getD, List.getElem?_eq_none (by simp; omega), List.getD_eq_getElem?_getD, List.getElem?_eq_none (by omega)]
structure Packed (out : List UInt8) (bs : List Nat) : Prop where
  len : out.length = (bs.length + 7) / 8
  lt : ∀ b ∈ bs, b < 2
  byte : ∀ q, q < out.length → (out.getD q default).toNat = pv (bitL bs) (8 * q) 8
/-- there is room for one more bit -/
structure Room (out : List UInt8) (bs : List Nat) : Prop where
  len : out.length = bs.length / 8 + 1
  lt : ∀ b ∈ bs, b < 2
  byte : ∀ q, q < out.length → (out.getD q default).toNat = pv (bitL bs) (8 * q) 8
theorem Packed.nil : Packed [] [] := ⟨rfl, fun b hb => (nomatch hb), fun q hq => absurd hq (Nat.not_lt_zero _)⟩
theorem Packed.room {out : List UInt8} {bs : List Nat} (h : Packed out bs) (c : ¬ bs.length % 8 = 0) : Room out bs := ⟨by have := h.len; omega, h.lt, h.byte⟩
theorem Packed.more {out : List UInt8} {bs : List Nat} (h : Packed out bs) (c : bs.length % 8 = 0) : Room (out ++ [0]) bs := by
  have hl := h.len
  refine ⟨by rw [List.length_append, List.length_singleton]; omega, h.lt, fun q hq => ?_⟩
  rw [List.length_append, List.length_singleton] at hq
  by_cases e : q < out.length
  · rw [List.getD_eq_getElem?_getD, List.getElem?_append_left e, ← List.getD_eq_getElem?_getD]
    exact h.byte q e
  · rw [show q = out.length by omega, List.getD_eq_getElem?_getD, List.getElem?_append_right (Nat.le_refl _), Nat.sub_self]
    have hz := pv_zero (f := bitL bs) (at_ := 8 * out.length) (r := 0) 8 (fun i h1 h2 => bitL_out (by omega))
    rw [Nat.zero_add] at hz
    rw [hz]; show (0 : UInt8).toNat = 0 * _; rw [Nat.zero_mul]; rfl
theorem Room.low {out : List UInt8} {bs : List Nat} (h : Room out bs) : (out.getD (bs.length / 8) default).toNat = pv (bitL bs) (8 * (bs.length / 8)) (bs.length % 8) * 2 ^ (8 - bs.length % 8) := by
  have hl := h.len
  rw [h.byte _ (by omega)]
  have hz := pv_zero (f := bitL bs) (at_ := 8 * (bs.length / 8)) (r := bs.length % 8) (8 - bs.length % 8) (fun i h1 h2 => bitL_out (by omega))
  rw [← hz]; congr 1; omega
theorem Room.put {out : List UInt8} {bs : List Nat} {v : Nat} {w : UInt8} (h : Room out bs) (hv : v < 2) (hw : w.toNat = (out.getD (bs.length / 8) default).toNat + v * 2 ^ (7 - bs.length % 8)) : Packed (out.set (bs.length / 8) w) (bs ++ [v]) := by
  have hl := h.len
  have hlow := h.low
  refine ⟨by rw [List.length_set, List.length_append, List.length_singleton]; omega, fun b hb => ?_, fun q hq => ?_⟩
  · rcases List.mem_append.1 hb with hb | hb
    · exact h.lt b hb
    · rw [List.mem_singleton.1 hb]; exact hv
  · rw [List.length_set] at hq
    rw [getD_set]
    by_cases e : bs.length / 8 = q
    · rw [if_pos ⟨e, by omega⟩, hw, hlow, ← e]
      have hz := pv_zero (f := bitL (bs ++ [v])) (at_ := 8 * (bs.length / 8)) (r := bs.length % 8 + 1) (7 - bs.length % 8) (fun i h1 h2 => bitL_out (by rw [List.length_append, List.length_singleton]; omega))
      rw [show bs.length % 8 + 1 + (7 - bs.length % 8) = 8 by omega] at hz
      rw [hz]
      show _ = (2 * pv (bitL (bs ++ [v])) (8 * (bs.length / 8)) (bs.length % 8) + bitL (bs ++ [v]) (8 * (bs.length / 8) + bs.length % 8)) * _
      have hcg : pv (bitL (bs ++ [v])) (8 * (bs.length / 8)) (bs.length % 8) = pv (bitL bs) (8 * (bs.length / 8)) (bs.length % 8) := pv_congr _ fun i h1 h2 => by rw [bitL_app, if_neg (by omega)]
      rw [hcg, bitL_app, if_pos (by omega), show 8 - bs.length % 8 = (7 - bs.length % 8) + 1 by omega, Nat.pow_succ, Nat.add_mul, Nat.mul_comm 2, Nat.mul_assoc, Nat.mul_comm 2]
    · rw [if_neg (fun c => e c.1), h.byte q hq]
      refine pv_congr 8 fun i h1 h2 => ?_
      rw [bitL_app, if_neg (by omega)]
/-- the bit at a place of bytes -/
def bitB (B : List UInt8) (i : Nat) : Nat := (B.getD (i / 8) default).toNat / 2 ^ (7 - i % 8) % 2
theorem bitB_lt (B : List UInt8) (i : Nat) : bitB B i < 2 := Nat.mod_lt _ (by decide)
theorem Packed.bit {out : List UInt8} {bs : List Nat} (h : Packed out bs) (more : List UInt8) {i : Nat} (hi : i < bs.length) : bitB (out ++ more) i = bitL bs i := by
  have hl := h.len
  have hq : i / 8 < out.length := by omega
  unfold bitB
  rw [List.getD_eq_getElem?_getD, List.getElem?_append_left hq, ← List.getD_eq_getElem?_getD, h.byte _ hq]
  have hc := pv_cut (bitL_lt h.lt) (8 * (i / 8)) (7 - i % 8) (i % 8 + 1)
  rw [show i % 8 + 1 + (7 - i % 8) = 8 by omega] at hc
  rw [← hc]
  show (2 * _ + bitL bs (8 * (i / 8) + i % 8)) % 2 = _
  rw [show 8 * (i / 8) + i % 8 = i by omega]
  have := bitL_lt h.lt i
  omega
/-- a code's bits, the first one first -/
def codeBits (c L : Nat) (k : Nat) : List Nat := (List.range k).map fun j => c / 2 ^ (L - 1 - j) % 2
theorem codeBits_len (c L k : Nat) : (codeBits c L k).length = k := by unfold codeBits; rw [List.length_map, List.length_range]
theorem codeBits_next (c L k : Nat) : codeBits c L (k + 1) = codeBits c L k ++ [c / 2 ^ (L - 1 - k) % 2] := by unfold codeBits; rw [List.range_succ, List.map_append]; rfl
/-- all bits of symbols -/
def allBits (L cs : Nat → Nat) (S : List Nat) : List Nat := S.flatMap fun s => codeBits (cs s) (L s) (L s)
def allLen (L : Nat → Nat) (S : List Nat) : Nat := (S.map L).sum
theorem allBits_len (L cs : Nat → Nat) (S : List Nat) : (allBits L cs S).length = allLen L S := by
  unfold allBits allLen
  induction S with
  | nil => rfl
  | cons s S ih => rw [List.flatMap_cons, List.length_append, ih, codeBits_len, List.map_cons, List.sum_cons]
theorem allBits_snoc (L cs : Nat → Nat) (S : List Nat) (s : Nat) : allBits L cs (S ++ [s]) = allBits L cs S ++ codeBits (cs s) (L s) (L s) := by unfold allBits; rw [List.flatMap_append]; simp
theorem allLen_snoc (L : Nat → Nat) (S : List Nat) (s : Nat) : allLen L (S ++ [s]) = allLen L S + L s := by unfold allLen; rw [List.map_append, List.sum_append]; simp
theorem allBits_at {L cs : Nat → Nat} {S : List Nat} {i j : Nat} (hi : i < S.length) (hj : j < L (S.getD i default)) : bitL (allBits L cs S) (allLen L (S.take i) + j) = cs (S.getD i default) / 2 ^ (L (S.getD i default) - 1 - j) % 2 := by
  obtain ⟨s, hs⟩ : ∃ s, S.getD i default = s := ⟨_, rfl⟩
  have e : S = S.take i ++ s :: S.drop (i + 1) := by
    have : S[i] = s := by rw [← hs, List.getD_eq_getElem?_getD, List.getElem?_eq_getElem hi]; rfl
    rw [← this, List.getElem_cons_drop, List.take_append_drop]
  rw [hs] at hj ⊢
  have e2 : allBits L cs S = allBits L cs (S.take i) ++ (codeBits (cs s) (L s) (L s) ++ allBits L cs (S.drop (i + 1))) := by
    conv => lhs; rw [e]
    unfold allBits; rw [List.flatMap_append, List.flatMap_cons]
  unfold bitL
  rw [e2, sort.getD_app, allBits_len, if_neg (by omega), Nat.add_sub_cancel_left, sort.getD_app, codeBits_len, if_pos hj]
  unfold codeBits
  rw [List.getD_eq_getElem?_getD, List.getElem?_map, List.getElem?_range hj]; rfl
theorem allLen_take (L : Nat → Nat) {S : List Nat} {i : Nat} (hi : i < S.length) : allLen L (S.take (i + 1)) = allLen L (S.take i) + L (S.getD i default) := by
  rw [List.take_succ_eq_append_getElem hi, allLen_snoc]
  congr 2
  rw [List.getD_eq_getElem?_getD, List.getElem?_eq_getElem hi]; rfl
theorem allLen_le (L : Nat → Nat) {S : List Nat} : ∀ (i : Nat), allLen L (S.take i) ≤ allLen L S := fun i => by
  have : allLen L S = allLen L (S.take i) + allLen L (S.drop i) := by
    unfold allLen; rw [← List.sum_append, ← List.map_append, List.take_append_drop]
  omega
theorem allLen_bd (L : Nat → Nat) {S : List Nat} (h : ∀ s ∈ S, L s ≤ 40) : allLen L S ≤ 40 * S.length := by
  unfold allLen
  induction S with
  | nil => exact Nat.le_refl _
  | cons s S ih =>
    rw [List.map_cons, List.sum_cons, List.length_cons]
    have h1 := h s (List.mem_cons_self ..)
    have h2 := ih fun x hx => h x (List.mem_cons_of_mem _ hx)
    omega
end huff
end Go.Proofs.Ytfkgchdbjfbdaaa
