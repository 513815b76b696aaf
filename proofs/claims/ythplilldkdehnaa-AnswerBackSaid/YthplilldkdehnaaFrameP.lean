/-
  PLAIN LAW of package frame: frames, one behind the other, and what is left. No program in sight.
-/
import Derived.Test.YthplilldkdehnaaInetP
namespace Go.Proofs.Ythplilldkdehnaa

namespace frame
/-- a number in four bytes -/
def h4 (k : Nat) : List UInt8 := [byteZ ((k : Int) / 16777216), byteZ ((k : Int) / 65536), byteZ ((k : Int) / 256), byteZ (k : Int)]
def num (l : List UInt8) : Nat := l.foldl (fun n x => n * 256 + x.toNat) 0
theorem num_snoc (l : List UInt8) (x : UInt8) : num (l ++ [x]) = num l * 256 + x.toNat := by simp [num]
theorem byteN (k : Nat) : ((byteZ (k : Int)).toNat : Nat) = k % 256 := by
  have := byteZ_toNat (k : Int); omega
theorem byteD (k d : Nat) : ((byteZ ((k : Int) / (d : Int))).toNat : Nat) = k / d % 256 := by
  rw [show (k : Int) / (d : Int) = ((k / d : Nat) : Int) from (Int.natCast_ediv k d).symm]
  exact byteN (k / d)
theorem num_h4 (k : Nat) (hk : k < 4294967296) : num (h4 k) = k := by
  have e1 := byteD k 16777216
  have e2 := byteD k 65536
  have e3 := byteD k 256
  have e4 := byteN k
  simp only [num, h4, List.foldl_cons, List.foldl_nil]
  rw [show ((16777216 : Nat) : Int) = 16777216 from rfl] at e1
  rw [show ((65536 : Nat) : Int) = 65536 from rfl] at e2
  rw [show ((256 : Nat) : Int) = 256 from rfl] at e3
  rw [e1, e2, e3, e4]
  omega
theorem num_lt : ∀ (l : List UInt8), num l < 256 ^ l.length := by
  intro l
  suffices ∀ (m : Nat) (l : List UInt8), l.length = m → num l < 256 ^ m from this _ l rfl
  intro m
  induction m with
  | zero => intro l hl; rw [List.eq_nil_of_length_eq_zero hl]; simp [num]
  | succ m ih =>
    intro l hl
    rcases List.eq_nil_or_concat l with rfl | ⟨l', x, rfl⟩
    · simp at hl
    · rw [List.concat_eq_append] at hl ⊢
      have h1 := ih l' (by simp at hl; omega)
      have h2 := x.toNat_lt
      rw [num_snoc, Nat.pow_succ]
      omega
theorem num_inj : ∀ (l m : List UInt8), l.length = m.length → num l = num m → l = m := by
  suffices ∀ (n : Nat) (l m : List UInt8), l.length = n → m.length = n → num l = num m → l = m from fun l m h e => this _ l m h rfl e
  intro n
  induction n with
  | zero => intro l m hl hm _; rw [List.eq_nil_of_length_eq_zero hl, List.eq_nil_of_length_eq_zero hm]
  | succ n ih =>
    intro l m hl hm e
    rcases List.eq_nil_or_concat l with rfl | ⟨l', x, rfl⟩
    · simp at hl
    · rcases List.eq_nil_or_concat m with rfl | ⟨m', y, rfl⟩
      · simp at hm
      · rw [List.concat_eq_append] at hl hm e ⊢
        rw [num_snoc, List.concat_eq_append, num_snoc] at e
        have h1 := x.toNat_lt
        have h2 := y.toNat_lt
        have h3 : num l' = num m' := by omega
        have h4 : x.toNat = y.toNat := by omega
        rw [List.concat_eq_append, ih l' m' (by simp at hl; omega) (by simp at hm; omega) h3, UInt8.toNat.inj h4]
theorem h4_len (k : Nat) : (h4 k).length = 4 := rfl
theorem take_snoc' (l : List UInt8) (k : Nat) (h : k < l.length) : l.take (k + 1) = l.take k ++ [l.getD k default] := by
  rw [List.take_succ_eq_append_getElem h, List.getD_eq_getElem?_getD, List.getElem?_eq_getElem h]; rfl
/-- a frame -/
def fr (b : List UInt8) : List UInt8 := h4 b.length ++ b
theorem fr_len (b : List UInt8) : (fr b).length = 4 + b.length := by simp [fr, h4_len]
def wrap (F : List (List UInt8)) : List UInt8 := F.flatMap fr
theorem wrap_snoc (F : List (List UInt8)) (b : List UInt8) : wrap (F ++ [b]) = wrap F ++ fr b := by simp [wrap]
theorem wrap_app (F G : List (List UInt8)) : wrap (F ++ G) = wrap F ++ wrap G := by simp [wrap]
theorem wrap_cons (b : List UInt8) (F : List (List UInt8)) : wrap (b :: F) = fr b ++ wrap F := by simp [wrap]
/-- too long -/
def big (r : List UInt8) : Prop := 4 ≤ r.length ∧ 1024 < num (r.take 4)
/-- no frame stands at the beginning -/
def stop (r : List UInt8) : Prop := r.length < 4 ∨ 1024 < num (r.take 4) ∨ r.length < 4 + num (r.take 4)
theorem take4 (b X : List UInt8) : (fr b ++ X).take 4 = h4 b.length := by
  simp [fr, h4]
theorem drop4 (b X : List UInt8) : (fr b ++ X).drop 4 = b ++ X := by
  simp [fr, h4]
theorem not_stop (b X : List UInt8) (hb : b.length ≤ 1024) : ¬ stop (fr b ++ X) := by
  unfold stop
  rw [take4, num_h4 _ (by omega), List.length_append, fr_len]
  omega
theorem fr_inj {b c X Y : List UInt8} (hb : b.length ≤ 1024) (hc : c.length ≤ 1024) (h : fr b ++ X = fr c ++ Y) : b = c ∧ X = Y := by
  have h1 := congrArg (List.take 4) h
  rw [take4, take4] at h1
  have h2 : b.length = c.length := by rw [← num_h4 b.length (by omega), h1, num_h4 c.length (by omega)]
  have h3 := congrArg (List.drop 4) h
  rw [drop4, drop4] at h3
  exact List.append_inj h3 h2
/-- frames are told apart from what is left in one way only -/
theorem wrap_inj : ∀ {F G : List (List UInt8)} {r s : List UInt8}, (∀ b ∈ F, b.length ≤ 1024) → (∀ b ∈ G, b.length ≤ 1024) → stop r → stop s → wrap F ++ r = wrap G ++ s → F = G ∧ r = s
  | [], [], r, s, _, _, _, _, h => ⟨rfl, by simpa [wrap] using h⟩
  | [], c :: G, r, s, _, hG, hr, _, h => by
    rw [wrap_cons, List.append_assoc] at h
    exact absurd ((show r = _ from h) ▸ hr) (not_stop _ _ (hG c (by simp)))
  | b :: F, [], r, s, hF, _, _, hs, h => by
    rw [wrap_cons, List.append_assoc] at h
    exact absurd ((show _ = s from h) ▸ hs) (not_stop _ _ (hF b (by simp)))
  | b :: F, c :: G, r, s, hF, hG, hr, hs, h => by
    rw [wrap_cons, wrap_cons, List.append_assoc, List.append_assoc] at h
    obtain ⟨e1, e2⟩ := fr_inj (hF b (by simp)) (hG c (by simp)) h
    obtain ⟨e3, e4⟩ := wrap_inj (fun x hx => hF x (by simp [hx])) (fun x hx => hG x (by simp [hx])) hr hs e2
    exact ⟨by rw [e1, e3], e4⟩
theorem fr_of (R : List UInt8) (k : Nat) (e1 : num (R.take 4) = k) (e2 : 4 + k ≤ R.length) (e3 : k ≤ 1024) : R = fr ((R.drop 4).take k) ++ R.drop (4 + k) := by
  have hl : ((R.drop 4).take k).length = k := by rw [List.length_take, List.length_drop]; omega
  unfold fr
  rw [hl, List.append_assoc, ← List.drop_drop, List.take_append_drop]
  conv => lhs; rw [← List.take_append_drop 4 R]
  congr 1
  refine (num_inj _ _ (by rw [List.length_take, h4_len]; omega) ?_)
  rw [num_h4 k (by omega), e1]
theorem stop_nil : stop [] := .inl (by simp)
/-- a part of a frame is none -/
theorem stop_part (b : List UInt8) (k : Nat) (hk : k < (fr b).length) (hb : b.length ≤ 1024) : stop ((fr b).take k) := by
  unfold stop
  rw [fr_len] at hk
  by_cases h : k < 4
  · left; rw [List.length_take]; omega
  · right; right
    rw [List.take_take, Nat.min_eq_left (by omega), show (fr b).take 4 = h4 b.length by simpa using take4 b [], num_h4 _ (by omega), List.length_take, fr_len]
    omega
theorem not_big_part (b : List UInt8) (k : Nat) (hb : b.length ≤ 1024) : ¬ big ((fr b).take k) := by
  rintro ⟨h1, h2⟩
  rw [List.length_take, fr_len] at h1
  rw [List.take_take, Nat.min_eq_left (by omega), show (fr b).take 4 = h4 b.length by simpa using take4 b [], num_h4 _ (by omega)] at h2
  omega
theorem big_stop {r : List UInt8} (h : big r) : stop r := .inr (.inl h.2)
theorem big_app {r : List UInt8} (h : big r) (s : List UInt8) : big (r ++ s) := by
  obtain ⟨h1, h2⟩ := h
  refine ⟨by rw [List.length_append]; omega, ?_⟩
  rw [List.take_append_of_le_length h1]; exact h2
theorem stop_len {r : List UInt8} (h : stop r) (hb : ¬ big r) : r.length < 1028 := by
  rcases h with h | h | h
  · omega
  · by_cases h4 : 4 ≤ r.length
    · exact absurd ⟨h4, h⟩ hb
    · omega
  · by_cases h4 : 4 ≤ r.length
    · have : ¬ 1024 < num (r.take 4) := fun k => hb ⟨h4, k⟩
      omega
    · omega
theorem wrap_len (F : List (List UInt8)) (m : Nat) (h : ∀ b ∈ F, b.length ≤ m) : (wrap F).length ≤ F.length * (4 + m) := by
  induction F with
  | nil => simp [wrap]
  | cons b F ih =>
    have := ih fun x hx => h x (by simp [hx])
    have := h b (by simp)
    rw [wrap_cons, List.length_append, fr_len, List.length_cons, Nat.succ_mul]
    omega
end frame
end Go.Proofs.Ythplilldkdehnaa
