/-
  PLAIN FACTS for FairShare: debts are bounded, and turns go round. No program in sight.
-/
import Derived.Test.YtcabcpealkbekaaFairR
namespace Go.Proofs.Ytcabcpealkbekaa
set_option linter.unusedVariables false
set_option linter.unusedSimpArgs false

namespace fair
def szs (l : List Int) (t : Nat) : Int := if t < l.length then 1 + l.getD t default % 150 else 40
theorem szs_ok (l : List Int) (t : Nat) : 1 ≤ szs l t ∧ szs l t ≤ 150 := by
  unfold szs; split
  · omega
  · omega
def shf (l : List Int) (t : Nat) : Nat × Int := (t % 3, szs l t)
def shA (l : List Int) (n : Nat) : List (Nat × Int) := (List.range n).map (shf l)
theorem shA_snoc (l : List Int) (n : Nat) : shA l n ++ [shf l n] = shA l (n + 1) := by simp [shA, List.range_succ]
theorem shA_len (l : List Int) (n : Nat) : (shA l n).length = n := by simp [shA]
theorem shA_at (l : List Int) {n t : Nat} (h : t < n) : (shA l n).getD t default = shf l t := by
  unfold shA
  rw [List.getD_eq_getElem?_getD, List.getElem?_map, List.getElem?_range h]; rfl
def mst (l : List Int) : Nat → Int
  | 0 => 0
  | n + 1 => max (mst l n) (szs l n)
theorem mst_ok (l : List Int) : ∀ n, 0 ≤ mst l n ∧ mst l n ≤ 150 ∧ ∀ t, t < n → szs l t ≤ mst l n
  | 0 => ⟨Int.le_refl 0, by unfold mst; decide, fun t h => by omega⟩
  | n + 1 => by
    obtain ⟨a, b, c⟩ := mst_ok l n
    have := szs_ok l n
    have e : mst l (n + 1) = max (mst l n) (szs l n) := rfl
    refine ⟨by omega, by omega, fun t h => ?_⟩
    by_cases ht : t = n
    · subst ht; omega
    · have := c t (by omega); omega
structure Fill (Q : List Int) (m : Int) (j : Nat) (s : St) : Prop where
  tu : s.2 = List.range (min j 3)
  fl : ∀ k, k < 3 → (at_ s.1 k).w.length = (j + 2 - k) / 3 ∧ (at_ s.1 k).d = 0 ∧ (at_ s.1 k).fed = false ∧ (at_ s.1 k).q = Q.getD k default ∧ ∀ z ∈ (at_ s.1 k).w, 1 ≤ z ∧ z ≤ m
  len : s.1.length = 3
theorem Fill.step {Q : List Int} {m : Int} {j : Nat} {s s1 : St} {f : Nat × Int} {o : Int × Nat × Int} (h : Fill Q m j s) (hj : j < 117) (hf : f.1 = j % 3) (hz : 1 ≤ f.2 ∧ f.2 ≤ m) (hs : Step s f o s1) : Fill Q m (j + 1) s1 := by
  cases hs with
  | none i z h0 _ => simp only at hz; omega
  | sends _ i z o h0 _ => simp only at hz; omega
  | comes i z h0 =>
    simp only at hf hz
    obtain ⟨tu, fl, len⟩ := h
    have hi : i < 3 := by omega
    have hl := (fl i hi).1
    unfold comes
    rw [if_neg (by omega)]
    refine ⟨?_, fun k hk => ?_, by simpa using len⟩
    · simp only [tu]
      by_cases hj3 : j < 3
      · have hw : (at_ s.1 i).w = [] := List.length_eq_zero_iff.1 (by omega)
        rw [if_pos hw, show min j 3 = j by omega, show min (j + 1) 3 = j + 1 by omega, List.range_succ, show i = j by omega]
      · have hw : ¬ (at_ s.1 i).w = [] := fun e => by rw [e] at hl; simp only [List.length_nil] at hl; omega
        rw [if_neg hw, show min j 3 = 3 by omega, show min (j + 1) 3 = 3 by omega]
    · obtain ⟨a, b, c, d, e⟩ := fl k hk
      simp only
      rw [at_set (by omega)]
      by_cases ek : k = i
      · subst ek
        rw [if_pos rfl]
        refine ⟨by simp only [List.length_append, List.length_cons, List.length_nil]; omega, b, c, d, fun v hv => ?_⟩
        rcases List.mem_append.1 hv with hv | hv
        · exact e v hv
        · simp at hv; subst hv; exact hz
      · rw [if_neg ek]
        exact ⟨by omega, b, c, d, e⟩
theorem Fill.all {Q : List Int} {m : Int} {s s1 : St} {fs : List (Nat × Int)} {os : List (Int × Nat × Int)} (h : Plays s fs os s1) : ∀ j, Fill Q m j s → j + fs.length ≤ 117 → (∀ t, t < fs.length → (fs.getD t default).1 = (j + t) % 3 ∧ 1 ≤ (fs.getD t default).2 ∧ (fs.getD t default).2 ≤ m) → Fill Q m (j + fs.length) s1 := by
  induction h with
  | nil s => intro j h _ _; exact h
  | @cons s s1 s2 f o fs os h _ ih =>
    intro j hF hl ha
    simp only [List.length_cons] at hl
    have h0 : f.1 = (j + 0) % 3 ∧ 1 ≤ f.2 ∧ f.2 ≤ m := ha 0 (by simp)
    have := ih (j + 1) (hF.step (by omega) h0.1 h0.2 h) (by omega) (fun t ht => by
      have := ha (t + 1) (Nat.succ_lt_succ ht)
      simp only [List.getD_cons_succ] at this
      rw [show j + 1 + t = j + (t + 1) by omega]; exact this)
    rw [show j + (f :: fs).length = j + 1 + fs.length by rw [List.length_cons]; omega]; exact this
theorem fill0 (Q : List Int) (m : Int) (hQ : Q.length = 3) : Fill Q m 0 (fresh Q) := by
  refine ⟨rfl, fun k hk => ?_, by simp [fresh, hQ]⟩
  have h1 := fresh_at Q k
  have h2 : at_ (fresh Q).1 k = ⟨Q.getD k default, [], 0, false⟩ := by
    unfold at_ fresh
    rw [List.getD_eq_getElem?_getD, List.getD_eq_getElem?_getD, List.getElem?_map, List.getElem?_eq_getElem (by omega)]; rfl
  rw [h2]
  refine ⟨?_, rfl, rfl, rfl, fun z hz => by cases hz⟩
  simp only [List.length_nil]; omega

def Shr (Q : List Int) (m : Int) (S : List Int) (s : St) : Prop :=
  S.length = 3 ∧ s.1.length = 3 ∧ ∃ (r : Nat → Int) (x y z : Nat), s.2 = [x, y, z] ∧ (x < 3 ∧ y < 3 ∧ z < 3 ∧ x ≠ y ∧ y ≠ z ∧ x ≠ z) ∧
   (∀ k, k < 3 → (at_ s.1 k).q = Q.getD k default ∧ ∀ v ∈ (at_ s.1 k).w, 1 ≤ v ∧ v ≤ m) ∧
   (S.getD x default + (fed (at_ s.1 x)).d = r x * Q.getD x default ∧ 0 ≤ (fed (at_ s.1 x)).d ∧ (fed (at_ s.1 x)).d ≤ m + Q.getD x default) ∧
   (S.getD y default + (at_ s.1 y).d = r y * Q.getD y default ∧ 0 ≤ (at_ s.1 y).d ∧ (at_ s.1 y).d ≤ m ∧ (at_ s.1 y).fed = false) ∧
   (S.getD z default + (at_ s.1 z).d = r z * Q.getD z default ∧ 0 ≤ (at_ s.1 z).d ∧ (at_ s.1 z).d ≤ m ∧ (at_ s.1 z).fed = false) ∧
   r x - 1 ≤ r y ∧ r y ≤ r z ∧ r z ≤ r x
theorem Shr.rot {Q : List Int} {m : Int} {S : List Int} {fs : List AF} {i : Nat} {T : List Nat} (hQ : ∀ k, k < 3 → 1 ≤ Q.getD k default) (h : Shr Q m S (fs, i :: T)) (hr : ¬ Ready (at_ fs i)) (hw : (at_ fs i).w ≠ []) : Shr Q m S (fair.rot fs i T) := by
  obtain ⟨h1, h2, r, x, y, z, ht, ⟨x3, y3, z3, xy, yz, xz⟩, hk, ⟨px, dx, mx⟩, ⟨py, dy, my, fy⟩, ⟨pz, dz, mz, fz⟩, o1, o2, o3⟩ := h
  simp only at ht h2 hk px dx mx py dy my fy pz dz mz fz
  obtain ⟨rfl, rfl⟩ : i = x ∧ T = [y, z] := by simpa using ht
  have hi : i < fs.length := by omega
  have hy : at_ (fair.rot fs i [y, z]).1 y = at_ fs y := by simp only [fair.rot, at_set hi]; rw [if_neg (Ne.symm xy)]
  have hz : at_ (fair.rot fs i [y, z]).1 z = at_ fs z := by simp only [fair.rot, at_set hi]; rw [if_neg (Ne.symm xz)]
  have hx : at_ (fair.rot fs i [y, z]).1 i = late (at_ fs i) := by simp only [fair.rot, at_set hi]; rw [if_pos trivial]
  have hqy := (hk y y3).1
  have q1 := hQ y y3
  have hhead : (at_ fs i).w.getD 0 default ≤ m := by
    cases hh : (at_ fs i).w with
    | nil => exact absurd hh hw
    | cons a t => have := (hk i x3).2 a (by rw [hh]; simp); simpa using this.2
  have hfd : (fed (at_ fs y)).d = (at_ fs y).d + Q.getD y default := by unfold fed; rw [if_neg (by rw [fy]; decide), ← hqy]
  unfold Ready at hr
  refine ⟨h1, by simpa [fair.rot] using h2, fun k => if k = y then r y + 1 else r k, y, z, i, rfl, ⟨y3, z3, x3, yz, Ne.symm xz, Ne.symm xy⟩, fun k hk3 => ?_, ?_, ?_, ?_, ?_, ?_, ?_⟩
  · by_cases e : k = i
    · subst e; rw [hx]; exact hk k hk3
    · have : at_ (fair.rot fs i [y, z]).1 k = at_ fs k := by simp only [fair.rot, at_set hi]; rw [if_neg e]
      rw [this]; exact hk k hk3
  · rw [hy, hfd]
    simp only [if_true]
    refine ⟨?_, by omega, by omega⟩
    rw [Int.add_mul]; omega
  · rw [hz]; simp only [if_neg (Ne.symm yz)]; exact ⟨pz, dz, mz, fz⟩
  · rw [hx]; simp only [if_neg xy]
    exact ⟨px, dx, by show (fed (at_ fs i)).d ≤ m; omega, rfl⟩
  · simp only [if_true, if_neg (Ne.symm yz)]; omega
  · simp only [if_neg (Ne.symm yz), if_neg xy]; omega
  · simp only [if_true, if_neg xy]; omega
theorem Shr.sent {Q : List Int} {m : Int} {S : List Int} {fs : List AF} {i : Nat} {T : List Nat} (h : Shr Q m S (fs, i :: T)) (hr : Ready (at_ fs i)) (hw : (at_ fs i).w.tail ≠ []) : Shr Q m (S.set i (S.getD i default + (at_ fs i).w.getD 0 default)) (fair.sent fs i T) := by
  obtain ⟨h1, h2, r, x, y, z, ht, ⟨x3, y3, z3, xy, yz, xz⟩, hk, ⟨px, dx, mx⟩, ⟨py, dy, my, fy⟩, ⟨pz, dz, mz, fz⟩, o1, o2, o3⟩ := h
  simp only at ht h2 hk px dx mx py dy my fy pz dz mz fz
  obtain ⟨rfl, rfl⟩ : i = x ∧ T = [y, z] := by simpa using ht
  have hi : i < fs.length := by omega
  have hy : at_ (fair.sent fs i [y, z]).1 y = at_ fs y := by simp only [fair.sent, at_set hi]; rw [if_neg (Ne.symm xy)]
  have hz : at_ (fair.sent fs i [y, z]).1 z = at_ fs z := by simp only [fair.sent, at_set hi]; rw [if_neg (Ne.symm xz)]
  have hx : at_ (fair.sent fs i [y, z]).1 i = less (at_ fs i) := by simp only [fair.sent, at_set hi]; rw [if_pos trivial]
  have hle : less (at_ fs i) = ⟨(at_ fs i).q, (at_ fs i).w.tail, (fed (at_ fs i)).d - (at_ fs i).w.getD 0 default, true⟩ := by unfold less; rw [if_neg hw]
  have hhead : 1 ≤ (at_ fs i).w.getD 0 default := by
    cases hh : (at_ fs i).w with
    | nil => rw [hh] at hw; exact absurd rfl hw
    | cons a t => have := (hk i x3).2 a (by rw [hh]; simp); simpa using this.1
  have hfd : (fed (less (at_ fs i))).d = (fed (at_ fs i)).d - (at_ fs i).w.getD 0 default := by rw [hle]; rfl
  unfold Ready at hr
  refine ⟨by simpa using h1, by simpa [fair.sent] using h2, r, i, y, z, by simp only [fair.sent]; rw [if_neg hw], ⟨x3, y3, z3, xy, yz, xz⟩, fun k hk3 => ?_, ?_, ?_, ?_, o1, o2, o3⟩
  · by_cases e : k = i
    · subst e; rw [hx, hle]; exact ⟨(hk k hk3).1, fun v hv => (hk k hk3).2 v (List.mem_of_mem_tail hv)⟩
    · have : at_ (fair.sent fs i [y, z]).1 k = at_ fs k := by simp only [fair.sent, at_set hi]; rw [if_neg e]
      rw [this]; exact hk k hk3
  · rw [hx, hfd, getD_set' S i i _ (by omega), if_pos rfl]
    exact ⟨by omega, by omega, by omega⟩
  · rw [hy, getD_set' S i y _ (by omega), if_neg (Ne.symm xy)]; exact ⟨py, dy, my, fy⟩
  · rw [hz, getD_set' S i z _ (by omega), if_neg (Ne.symm xz)]; exact ⟨pz, dz, mz, fz⟩
theorem Shr.sends {Q : List Int} {m : Int} {S : List Int} (hQ : ∀ k, k < 3 → 1 ≤ Q.getD k default) {s s1 : St} {o : Nat × Int} (hs : Sends s s1 o) : Shr Q m S s → (∀ k, k < 3 → (at_ s.1 k).w ≠ []) → (at_ s1.1 o.1).w ≠ [] → Shr Q m (S.set o.1 (S.getD o.1 default + o.2)) s1 := by
  induction hs with
  | now fs i T h =>
    intro a b c
    have hi : i < fs.length := by
      obtain ⟨h1, h2, r, x, y, z, ht, ⟨x3, _⟩, _⟩ := a
      simp only [List.cons.injEq] at ht h2
      omega
    refine a.sent h fun e => c ?_
    simp only [fair.sent, at_set hi, if_true]
    unfold less; rw [if_pos e]
  | later fs i T s o h k ih =>
    intro a b c
    obtain ⟨h1, h2, r, x, y, z, ht, ⟨x3, _⟩, _⟩ := id a
    simp only [List.cons.injEq] at ht h2
    have hi3 : i < 3 := by omega
    refine ih (a.rot hQ h (b i hi3)) (fun k hk => ?_) c
    have : (at_ (fair.rot fs i T).1 k).w = (at_ fs k).w := by
      simp only [fair.rot, at_set (show i < fs.length by omega)]; split
      · rename_i e; subst e; rfl
      · rfl
    rw [this]; exact b k hk
theorem share_num (Sa Sb Qa Qb ra rb Da Db m : Int) (ha : Sa + Da = ra * Qa) (hb : Sb + Db = rb * Qb) (qa : 1 ≤ Qa) (qb : 1 ≤ Qb) (da : 0 ≤ Da) (hm : 0 ≤ m) (h : (ra - rb ≤ 1 ∧ Db ≤ m) ∨ (ra - rb ≤ 0 ∧ Db ≤ m + Qb)) :
    Sa * Qb - Sb * Qa ≤ Qa * Qb + m * Qb + m * Qa := by
  have e1 : Sa = ra * Qa - Da := by omega
  have e2 : Sb = rb * Qb - Db := by omega
  have p1 : 0 ≤ Qa * Qb := Int.mul_nonneg (by omega) (by omega)
  have p2 : 0 ≤ Da * Qb := Int.mul_nonneg da (by omega)
  have p3 : 0 ≤ m * Qb := Int.mul_nonneg hm (by omega)
  have e3 : Sa * Qb - Sb * Qa = (ra - rb) * (Qa * Qb) - Da * Qb + Db * Qa := by
    rw [e1, e2, Int.sub_mul, Int.sub_mul, Int.sub_mul]
    have : ra * Qa * Qb = ra * (Qa * Qb) := Int.mul_assoc ..
    have : rb * Qb * Qa = rb * (Qa * Qb) := by rw [Int.mul_assoc, Int.mul_comm Qb Qa]
    omega
  rcases h with ⟨h1, h2⟩ | ⟨h1, h2⟩
  · have q1 := Int.mul_le_mul_of_nonneg_right h1 p1
    have q2 := Int.mul_le_mul_of_nonneg_right h2 (show 0 ≤ Qa by omega)
    omega
  · have q1 := Int.mul_le_mul_of_nonneg_right h1 p1
    have q2 := Int.mul_le_mul_of_nonneg_right h2 (show 0 ≤ Qa by omega)
    rw [Int.add_mul] at q2
    have : Qb * Qa = Qa * Qb := Int.mul_comm ..
    omega
theorem Shr.fair {Q : List Int} {m : Int} {S : List Int} {s : St} (hQ : ∀ k, k < 3 → 1 ≤ Q.getD k default) (hm : 0 ≤ m) (h : Shr Q m S s) {a b : Nat} (ha : a < 3) (hb : b < 3) :
    S.getD a default * Q.getD b default - S.getD b default * Q.getD a default ≤ Q.getD a default * Q.getD b default + m * Q.getD b default + m * Q.getD a default := by
  obtain ⟨h1, h2, r, x, y, z, ht, ⟨x3, y3, z3, xy, yz, xz⟩, hk, ⟨px, dx, mx⟩, ⟨py, dy, my, fy⟩, ⟨pz, dz, mz, fz⟩, o1, o2, o3⟩ := h
  have key : ∀ k, k < 3 → ∃ D, S.getD k default + D = r k * Q.getD k default ∧ 0 ≤ D ∧ r k ≤ r x ∧ ((D ≤ m ∧ r x - 1 ≤ r k) ∨ (D ≤ m + Q.getD k default ∧ r k = r x)) := fun k hk => by
    rcases (show k = x ∨ k = y ∨ k = z by omega) with e | e | e <;> subst e
    · exact ⟨_, px, dx, by omega, .inr ⟨mx, rfl⟩⟩
    · exact ⟨_, py, dy, by omega, .inl ⟨my, by omega⟩⟩
    · exact ⟨_, pz, dz, by omega, .inl ⟨mz, by omega⟩⟩
  obtain ⟨Da, ea, na, ra, ca⟩ := key a ha
  obtain ⟨Db, eb, nb, rb, cb⟩ := key b hb
  refine share_num _ _ _ _ _ _ _ _ _ ea eb (hQ a ha) (hQ b hb) na hm ?_
  rcases cb with ⟨c1, c2⟩ | ⟨c1, c2⟩
  · exact .inl ⟨by omega, c1⟩
  · exact .inr ⟨by omega, c1⟩
theorem Fill.shr {Q : List Int} {m : Int} {s : St} (h : Fill Q m 117 s) (hm : 0 ≤ m) (hQ : ∀ k, k < 3 → 1 ≤ Q.getD k default) : Shr Q m [0, 0, 0] s := by
  obtain ⟨tu, fl, len⟩ := h
  refine ⟨rfl, len, fun k => if k = 0 then 1 else 0, 0, 1, 2, tu, by decide, fun k hk => ⟨(fl k hk).2.2.2.1, (fl k hk).2.2.2.2⟩, ?_, ?_, ?_, by decide, by decide, by decide⟩
  · obtain ⟨_, b, c, d, _⟩ := fl 0 (by decide)
    have := hQ 0 (by decide)
    have e : (fed (at_ s.1 0)).d = Q.getD 0 default := by unfold fed; rw [if_neg (by rw [c]; decide)]; simp only [b, d]; omega
    rw [e]
    simp only [if_true, Int.one_mul, show ([0, 0, 0] : List Int).getD 0 default = 0 from rfl]
    omega
  · obtain ⟨_, b, c, d, _⟩ := fl 1 (by decide)
    rw [b]
    exact ⟨by simp, by decide, hm, c⟩
  · obtain ⟨_, b, c, d, _⟩ := fl 2 (by decide)
    rw [b]
    exact ⟨by simp, by decide, hm, c⟩
end fair
end Go.Proofs.Ytcabcpealkbekaa
