/-
  THE PLAIN LAW of BucketLater. No program in sight.
-/
import Derived.Test.YtpfpjlhcmdpdkaaBucketRests
namespace Go.Proofs.Ytpfpjlhcmdpdkaa
open Go.RowKit
set_option linter.unusedVariables false

namespace bucket
def laterL (dl : Int) (l : List (Int × Int)) : List (Int × Int) := l.map fun p => (p.1 + dl, p.2)
theorem later_len (dl : Int) (l : List (Int × Int)) : (laterL dl l).length = l.length := by simp [laterL]
theorem later_at (dl : Int) (l : List (Int × Int)) (i : Nat) (h : i < l.length) : At (laterL dl l) i = At l i + dl ∧ Sz (laterL dl l) i = Sz l i := by
  simp [At, Sz, laterL, List.getD_eq_getElem?_getD, h]
theorem later_take (dl : Int) (l : List (Int × Int)) (k : Nat) (h : k < l.length) : pks (laterL dl (l.take (k + 1))) = pks (laterL dl (l.take k)) ++ pks [(At l k + dl, Sz l k)] := by
  rw [← pks_append]
  congr 1
  simp only [laterL, List.take_add_one, List.map_append, List.getElem?_eq_getElem h]
  simp [At, Sz, List.getD_eq_getElem?_getD, h]
theorem later_ok (dl : Int) (l : List (Int × Int)) (h : PK l) (hl : l.length ≤ 1000) (hd : 0 ≤ dl ∧ dl ≤ 10000) : OK (laterL dl l) := by
  refine ⟨fun i hi => ?_, fun i hi => ?_, fun i hi => ?_⟩
  · rw [later_len] at hi
    have := h.a0 i hi
    rw [(later_at dl l i hi).1]; omega
  · rw [later_len] at hi
    have := h.s0 i hi
    rw [(later_at dl l i hi).2]; omega
  · rw [later_len] at hi
    have := h.up i hi
    rw [(later_at dl l i (by omega)).1, (later_at dl l (i + 1) hi).1]; omega
theorem later_avail (r u dl : Int) (l : List (Int × Int)) : ∀ k, k < l.length → avail r u (laterL dl l) k = avail r u l k := by
  intro k
  induction k with
  | zero => intro _; rfl
  | succ k ih =>
    intro hk
    have e := ih (by omega)
    obtain ⟨e1, e2⟩ := later_at dl l k (by omega)
    obtain ⟨e3, _⟩ := later_at dl l (k + 1) hk
    simp only [avail]
    rw [e, e1, e2, e3, show At l (k + 1) + dl - (At l k + dl) = At l (k + 1) - At l k by omega]
theorem later_pass (r u dl : Int) (l : List (Int × Int)) (k : Nat) (h : k < l.length) : pass r u (laterL dl l) k = pass r u l k := by
  simp only [pass]
  rw [later_avail r u dl l k h, (later_at dl l k h).2]

theorem app_avail (r u : Int) (l m : List (Int × Int)) : ∀ k, k < l.length → avail r u (l ++ m) k = avail r u l k := by
  intro k
  induction k with
  | zero => intro _; rfl
  | succ k ih =>
    intro hk
    obtain ⟨e1, e2⟩ := at_append_lt l m k (by omega)
    obtain ⟨e3, _⟩ := at_append_lt l m (k + 1) hk
    simp only [avail]
    rw [ih (by omega), e1, e2, e3]
theorem app_left (r u : Int) (l m : List (Int × Int)) (k : Nat) (h : k ≤ l.length) : left r u (l ++ m) k = left r u l k := by
  cases k with
  | zero => rfl
  | succ k =>
    obtain ⟨e1, e2⟩ := at_append_lt l m k (by omega)
    simp only [left]
    rw [app_avail r u l m k (by omega), e2]
theorem app_pass (r u : Int) (l m : List (Int × Int)) (k : Nat) (h : k < l.length) : pass r u (l ++ m) k = pass r u l k := by
  simp only [pass]
  rw [app_avail r u l m k h, (at_append_lt l m k h).2]
theorem app_avail_new (r u : Int) (l : List (Int × Int)) (x : Int × Int) (h : 0 < l.length) : avail r u (l ++ [x]) l.length = min u (left r u l l.length + r * (x.1 - lastAt l l.length)) := by
  obtain ⟨k, hk⟩ : ∃ k, l.length = k + 1 := ⟨l.length - 1, by omega⟩
  have h1 : avail r u (l ++ [x]) (k + 1) = min u (left r u (l ++ [x]) (k + 1) + r * (At (l ++ [x]) (k + 1) - At (l ++ [x]) k)) := rfl
  have h2 := (at_append_eq l x).1
  rw [hk] at h2
  rw [hk, h1, app_left r u l [x] (k + 1) (by omega), h2, (at_append_lt l [x] k (by omega)).1]
  rfl

/-- the few packets, of k ≥ 1 played ones -/
structure Few (r u : Int) (l F : List (Int × Int)) (k : Nat) : Prop where
  n1 : 1 ≤ F.length
  n2 : F.length ≤ k
  ok : OK F
  tm : lastAt F F.length ≤ lastAt l k ∧ 0 ≤ lastAt F F.length
  le : left r u l k = min u (left r u F F.length + r * (lastAt l k - lastAt F F.length))
  al : ∀ i, 1 ≤ i → i < F.length → pass r u F i = true
theorem Few.first (r u : Int) (l : List (Int × Int)) (h : OK l) (hu : 0 ≤ u) (hr : 0 ≤ r) (hl : 0 < l.length) : Few r u l [(At l 0, Sz l 0)] 1 := by
  have ha := h.a0 0 hl
  have hs := h.s0 0 hl
  have hb := (left_bd r u l hr hu h 1 hl).2
  have e1 : At [(At l 0, Sz l 0)] 0 = At l 0 := rfl
  have e2 : Sz [(At l 0, Sz l 0)] 0 = Sz l 0 := rfl
  refine ⟨Nat.le_refl _, Nat.le_refl _, ⟨fun i hi => ?_, fun i hi => ?_, fun i hi => ?_⟩, ⟨Int.le_refl _, ha.1⟩, ?_, fun i h1 h2 => ?_⟩
  · obtain rfl : i = 0 := by simp at hi; exact hi
    exact ha
  · obtain rfl : i = 0 := by simp at hi; exact hi
    exact hs
  · simp at hi
  · have e3 : left r u [(At l 0, Sz l 0)] 1 = left r u l 1 := rfl
    have e4 : lastAt [(At l 0, Sz l 0)] 1 = lastAt l 1 := rfl
    show left r u l 1 = min u (left r u [(At l 0, Sz l 0)] 1 + r * (lastAt l 1 - lastAt [(At l 0, Sz l 0)] 1))
    rw [e3, e4, Int.sub_self, Int.mul_zero]
    omega
  · simp at h2; omega
theorem Few.avail (r u : Int) (l F : List (Int × Int)) (k : Nat) (h : OK l) (hu : 0 ≤ u) (hr : 0 ≤ r) (hk : k < l.length) (hk0 : 0 < k) (H : Few r u l F k) : avail r u l k = min u (left r u F F.length + r * (At l k - lastAt F F.length)) := by
  obtain ⟨e, e2, _⟩ := avail_step r u l h k hk0 hk
  have e3 := H.le
  have h1 : 0 ≤ r * (At l k - lastAt l k) := Int.mul_nonneg hr (by omega)
  have h2 : r * (At l k - lastAt F F.length) = r * (lastAt l k - lastAt F F.length) + r * (At l k - lastAt l k) := by
    rw [← Int.mul_add]; congr 1; omega
  rw [e, e3, h2]
  omega
theorem Few.skip (r u : Int) (l F : List (Int × Int)) (k : Nat) (h : OK l) (hu : 0 ≤ u) (hr : 0 ≤ r) (hk : k < l.length) (hk0 : 0 < k) (H : Few r u l F k) (hp : pass r u l k = false) : Few r u l F (k + 1) := by
  have e := H.avail r u l F k h hu hr hk hk0
  have e2 := (avail_step r u l h k hk0 hk).2.1
  simp only [pass, decide_eq_false_iff_not] at hp
  have e3 : left r u l (k + 1) = bucket.avail r u l k := by simp only [left, if_neg hp]
  exact ⟨H.n1, by have := H.n2; omega, H.ok, ⟨by have := H.tm; show _ ≤ At l k; omega, H.tm.2⟩, by rw [e3, e]; rfl, H.al⟩
theorem Few.take (r u : Int) (l F : List (Int × Int)) (k : Nat) (h : OK l) (hu : 0 ≤ u) (hr : 0 ≤ r) (hk : k < l.length) (hk0 : 0 < k) (H : Few r u l F k) (hp : pass r u l k = true) : Few r u l (F ++ [(At l k, Sz l k)]) (k + 1) := by
  have e := H.avail r u l F k h hu hr hk hk0
  have e2 := (avail_step r u l h k hk0 hk).2.1
  have ha := h.a0 k hk
  have hs := h.s0 k hk
  have htm := H.tm
  have hn1 := H.n1
  have hav := app_avail_new r u F (At l k, Sz l k) (by omega)
  have he := at_append_eq F (At l k, Sz l k)
  have hV : bucket.avail r u (F ++ [(At l k, Sz l k)]) F.length = bucket.avail r u l k := by rw [hav, e]
  have hpn : pass r u (F ++ [(At l k, Sz l k)]) F.length = true := by
    simp only [pass] at hp ⊢
    rw [hV, he.2]; exact hp
  have hok : OK (F ++ [(At l k, Sz l k)]) := by
    have := H.ok.snoc (At l k - lastAt F F.length) (Sz l k) (by omega) htm.2 (by omega) hs
    rwa [show lastAt F F.length + (At l k - lastAt F F.length) = At l k by omega] at this
  have hlen : (F ++ [(At l k, Sz l k)]).length = F.length + 1 := by simp
  have hub := (left_bd r u l hr hu h (k + 1) hk).2
  have hL : left r u (F ++ [(At l k, Sz l k)]) (F.length + 1) = left r u l (k + 1) := by
    simp only [left]
    rw [hV, he.2]
  have hA : lastAt (F ++ [(At l k, Sz l k)]) (F.length + 1) = At l k := he.1
  refine ⟨by omega, by have := H.n2; omega, hok, ?_, ?_, fun i h1 h2 => ?_⟩
  · rw [hlen, hA]; exact ⟨Int.le_refl _, ha.1⟩
  · rw [hlen, hA, hL]
    show _ = min u (left r u l (k + 1) + r * (At l k - At l k))
    rw [Int.sub_self, Int.mul_zero]
    omega
  · rw [hlen] at h2
    by_cases h3 : i < F.length
    · rw [app_pass r u F _ i h3]; exact H.al i h1 h3
    · obtain rfl : i = F.length := by omega
      exact hpn
end bucket
end Go.Proofs.Ytpfpjlhcmdpdkaa
