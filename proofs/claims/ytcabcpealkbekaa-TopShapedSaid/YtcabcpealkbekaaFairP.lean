/-
  PLAIN MODEL of package fair: whose turn it is. No program in sight.
-/
import Derived.Test.YtcabcpealkbekaaInetP
namespace Go.Proofs.Ytcabcpealkbekaa

namespace fair
structure AF where
  q : Int
  w : List Int
  d : Int
  fed : Bool
instance : Inhabited AF := ⟨⟨0, [], 0, false⟩⟩
abbrev St := List AF × List Nat
structure FlOk (x : AF) : Prop where
  q : 1 ≤ x.q ∧ x.q ≤ 1500
  len : x.w.length ≤ 40
  w : ∀ z ∈ x.w, 1 ≤ z ∧ z ≤ 1500
  d : 0 ≤ x.d ∧ x.d ≤ 3000
  un : x.fed = false → x.d ≤ 1500
structure Wf (s : St) : Prop where
  fl : ∀ x ∈ s.1, FlOk x
  len : s.1.length ≤ 6
  nd : s.2.Nodup
  act : ∀ i, i ∈ s.2 ↔ i < s.1.length ∧ (s.1.getD i default).w ≠ []
def fed (x : AF) : AF := if x.fed then x else ⟨x.q, x.w, x.d + x.q, true⟩
def Ready (x : AF) : Prop := x.w.getD 0 default ≤ (fed x).d
instance (x : AF) : Decidable (Ready x) := inferInstanceAs (Decidable (_ ≤ _))
def late (x : AF) : AF := ⟨x.q, x.w, (fed x).d, false⟩
def less (x : AF) : AF := if x.w.tail = [] then ⟨x.q, [], 0, false⟩ else ⟨x.q, x.w.tail, (fed x).d - x.w.getD 0 default, true⟩
def at_ (fs : List AF) (i : Nat) : AF := fs.getD i default
def rot (fs : List AF) (i : Nat) (T : List Nat) : St := (fs.set i (late (at_ fs i)), T ++ [i])
def sent (fs : List AF) (i : Nat) (T : List Nat) : St := (fs.set i (less (at_ fs i)), if (at_ fs i).w.tail = [] then T else i :: T)
/-- something is sent -/
inductive Sends : St → St → Nat × Int → Prop
  | now (fs : List AF) (i : Nat) (T : List Nat) (h : Ready (at_ fs i)) : Sends (fs, i :: T) (sent fs i T) (i, (at_ fs i).w.getD 0 default)
  | later (fs : List AF) (i : Nat) (T : List Nat) (s : St) (o : Nat × Int) (h : ¬ Ready (at_ fs i)) (k : Sends (rot fs i T) s o) : Sends (fs, i :: T) s o
theorem Sends.det {s s1 s2 : St} {o1 o2 : Nat × Int} (h : Sends s s1 o1) : Sends s s2 o2 → s1 = s2 ∧ o1 = o2 := by
  induction h with
  | now fs i T h => intro k; cases k with
    | now _ _ _ _ => exact ⟨rfl, rfl⟩
    | later _ _ _ _ _ g _ => exact absurd h g
  | later fs i T s o h k ih => intro k'; cases k' with
    | now _ _ _ g => exact absurd g h
    | later _ _ _ _ _ _ g => exact ih g
def comes (s : St) (i : Nat) (z : Int) : St × Int :=
  if (at_ s.1 i).w.length = 40 then (s, 9)
  else ((s.1.set i ⟨(at_ s.1 i).q, (at_ s.1 i).w ++ [z], (at_ s.1 i).d, (at_ s.1 i).fed⟩, if (at_ s.1 i).w = [] then s.2 ++ [i] else s.2), 0)
theorem at_mem {fs : List AF} {i : Nat} (h : i < fs.length) : at_ fs i ∈ fs := by
  unfold at_; rw [List.getD_eq_getElem?_getD, List.getElem?_eq_getElem h]; exact List.getElem_mem h
theorem at_set {fs : List AF} {i j : Nat} {x : AF} (h : i < fs.length) : at_ (fs.set i x) j = if j = i then x else at_ fs j := by
  unfold at_
  rw [List.getD_eq_getElem?_getD, List.getD_eq_getElem?_getD, List.getElem?_set]
  by_cases e : i = j
  · subst e; simp [h]
  · rw [if_neg e, if_neg (Ne.symm e)]
theorem mem_set' {fs : List AF} {i : Nat} {x y : AF} (h : y ∈ fs.set i x) : y = x ∨ y ∈ fs := (List.mem_or_eq_of_mem_set h).symm
theorem nodup_bound : ∀ (n : Nat) (l : List Nat), l.Nodup → (∀ i ∈ l, i < n) → l.length ≤ n
  | 0, l, _, h => by
    cases l with
    | nil => exact Nat.le_refl _
    | cons a t => exact absurd (h a (by simp)) (by omega)
  | n + 1, l, hn, h => by
    have ih := nodup_bound n (l.erase n) (hn.erase n) fun i hi => by
      have h1 := (hn.mem_erase_iff).1 hi
      have h2 := h i h1.2
      have h3 := h1.1
      omega
    have := List.length_erase (a := n) (l := l)
    split at this <;> omega
theorem turn_len {s : St} (h : Wf s) : s.2.length ≤ 6 := by
  have h1 := nodup_bound s.1.length s.2 h.nd fun i hi => ((h.act i).1 hi).1
  have := h.len
  omega
theorem fed_ok {x : AF} (h : FlOk x) : FlOk (fed x) ∧ (fed x).fed = true ∧ (fed x).w = x.w ∧ (fed x).q = x.q := by
  by_cases hf : x.fed = true
  · have e : fed x = x := by unfold fed; rw [if_pos hf]
    rw [e]
    exact ⟨h, hf, rfl, rfl⟩
  · have e : fed x = ⟨x.q, x.w, x.d + x.q, true⟩ := by unfold fed; rw [if_neg hf]
    have := h.un (by simpa using hf); have := h.q; have := h.d
    rw [e]
    exact ⟨⟨h.q, h.len, h.w, ⟨by simp only; omega, by simp only; omega⟩, fun k => by cases k⟩, rfl, rfl, rfl⟩
theorem head_le {x : AF} (h : FlOk x) : x.w.getD 0 default ≤ 1500 ∧ 0 ≤ x.w.getD 0 default := by
  cases hw : x.w with
  | nil => exact ⟨by decide, by decide⟩
  | cons z t => have := h.w z (by rw [hw]; simp); exact ⟨by simp; omega, by simp; omega⟩
theorem late_ok {x : AF} (h : FlOk x) (hr : ¬ Ready x) : FlOk (late x) := by
  obtain ⟨h1, _, _, _⟩ := fed_ok h
  have := head_le h
  unfold Ready at hr
  exact ⟨h.q, h.len, h.w, h1.d, fun _ => by simp only [late]; omega⟩
theorem less_ok {x : AF} (h : FlOk x) (hr : Ready x) : FlOk (less x) := by
  obtain ⟨h1, _, _, _⟩ := fed_ok h
  have h2 := head_le h
  have h3 := h1.d
  unfold Ready at hr
  unfold less
  split
  · exact ⟨h.q, by simp, by simp, by simp, fun _ => by simp⟩
  · exact ⟨h.q, by have := h.len; simp only [List.length_tail]; omega, fun z hz => h.w z (List.mem_of_mem_tail hz), ⟨by simp only; omega, by simp only; omega⟩, fun k => by cases k⟩
theorem rot_wf {fs : List AF} {i : Nat} {T : List Nat} (h : Wf (fs, i :: T)) (hr : ¬ Ready (at_ fs i)) : Wf (rot fs i T) := by
  have hi : i < fs.length := ((h.act i).1 (by simp)).1
  have hnd := List.nodup_cons.1 h.nd
  refine ⟨fun y hy => ?_, by simpa [rot] using h.len, ?_, fun j => ?_⟩
  · rcases mem_set' hy with rfl | hy
    · exact late_ok (h.fl _ (at_mem hi)) hr
    · exact h.fl y hy
  · exact (List.perm_append_singleton i T).symm.nodup_iff.1 h.nd
  · have := h.act j
    simp only [rot, List.mem_append, List.mem_singleton, List.length_set] at this ⊢
    rw [show (fs.set i (late (at_ fs i))).getD j default = at_ (fs.set i (late (at_ fs i))) j from rfl, at_set hi]
    rw [show (j ∈ T ∨ j = i) ↔ j ∈ i :: T by simp [or_comm], this]
    by_cases e : j = i
    · subst e; simp [late, at_]
    · rw [if_neg e]; rfl
theorem sent_wf {fs : List AF} {i : Nat} {T : List Nat} (h : Wf (fs, i :: T)) (hr : Ready (at_ fs i)) : Wf (sent fs i T) := by
  have hi : i < fs.length := ((h.act i).1 (by simp)).1
  have hnd := List.nodup_cons.1 h.nd
  refine ⟨fun y hy => ?_, by simpa [sent] using h.len, ?_, fun j => ?_⟩
  · rcases mem_set' hy with rfl | hy
    · exact less_ok (h.fl _ (at_mem hi)) hr
    · exact h.fl y hy
  · unfold sent; simp only; split
    · exact hnd.2
    · exact h.nd
  · have := h.act j
    simp only [sent, List.length_set] at this ⊢
    rw [show (fs.set i (less (at_ fs i))).getD j default = at_ (fs.set i (less (at_ fs i))) j from rfl, at_set hi]
    by_cases e : j = i
    · subst e
      rw [if_pos rfl]
      by_cases ht : (at_ fs j).w.tail = []
      · rw [if_pos ht]; simp [less, ht, hnd.1]
      · rw [if_neg ht]; simp [less, ht, hi]
    · rw [if_neg e]
      have e2 : (j ∈ if (at_ fs i).w.tail = [] then T else i :: T) ↔ j ∈ i :: T := by split <;> simp [e]
      rw [e2, this]; rfl
theorem comes_wf {s : St} (h : Wf s) {i : Nat} {z : Int} (hi : i < s.1.length) (hz : 1 ≤ z ∧ z ≤ 1500) : Wf (comes s i z).1 := by
  unfold comes
  split
  · exact h
  · rename_i h40
    have hx := h.fl _ (at_mem hi)
    have hxl := hx.len
    refine ⟨fun y hy => ?_, by simpa using h.len, ?_, fun j => ?_⟩
    · rcases mem_set' hy with rfl | hy
      · exact ⟨hx.q, by simp only [List.length_append, List.length_cons, List.length_nil]; omega, fun y hy => (List.mem_append.1 hy).elim (hx.w y) (fun k => by simp at k; subst k; exact hz), hx.d, hx.un⟩
      · exact h.fl y hy
    · simp only; split
      · rename_i hw
        have : i ∉ s.2 := fun k => ((h.act i).1 k).2 hw
        exact (List.perm_append_singleton i s.2).symm.nodup_iff.1 (List.nodup_cons.2 ⟨this, h.nd⟩)
      · exact h.nd
    · have := h.act j
      simp only [List.length_set]
      rw [show (s.1.set i _).getD j default = at_ (s.1.set i _) j from rfl, at_set hi]
      by_cases e : j = i
      · subst e
        rw [if_pos rfl]
        by_cases hw : (at_ s.1 j).w = []
        · rw [if_pos hw]; simp [hi]
        · rw [if_neg hw, this]; exact ⟨fun _ => ⟨hi, by simp⟩, fun _ => ⟨hi, hw⟩⟩
      · rw [if_neg e]
        have e2 : (j ∈ if (at_ s.1 i).w = [] then s.2 ++ [i] else s.2) ↔ j ∈ s.2 := by split <;> simp [e]
        rw [e2, this]; rfl
end fair
end Go.Proofs.Ytcabcpealkbekaa
