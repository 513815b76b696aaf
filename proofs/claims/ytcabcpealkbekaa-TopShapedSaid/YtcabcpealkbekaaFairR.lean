/-
  PLAIN FACTS for the laws of package fair. No program in sight.
-/
import Derived.Test.YtcabcpealkbekaaFair6
import Derived.Test.YtcabcpealkbekaaKit20
namespace Go.Proofs.Ytcabcpealkbekaa
set_option linter.unusedVariables false
set_option linter.unusedSimpArgs false

namespace fair
abbrev Ws := List (SlD Int)
def Jw (W : Ws) (s : St) : Prop := W.length = 3 ∧ ∀ k, k < 3 → (W.getD k default).l = (at_ s.1 k).w ∧ (W.getD k default).l.length = (W.getD k default).n
def tot (W : Ws) : Nat := (W.map fun x => x.l.length).sum
def wq (W : Ws) : List Res := W.map wv
theorem wq_at (W : Ws) (i : Nat) (h : i < W.length) : (wq W)[i]'(by simpa [wq] using h) = wv (W.getD i default) := by
  simp [wq, List.getD_eq_getElem?_getD, List.getElem?_eq_getElem h]
theorem wq_set (W : Ws) (i : Nat) (x : SlD Int) : (wq W).set i (wv x) = wq (W.set i x) := by simp [wq, List.map_set]
theorem tot_set (W : Ws) (i : Nat) (x : SlD Int) (h : i < W.length) : tot (W.set i x) + (W.getD i default).l.length = tot W + x.l.length := by
  unfold tot
  have h1 := sum_set (W.map fun x => x.l.length) i x.l.length (by simpa using h)
  rw [show (W.map fun x => x.l.length).getD i 0 = (W.getD i default).l.length by rw [List.getD_eq_getElem?_getD, List.getD_eq_getElem?_getD, List.getElem?_map, List.getElem?_eq_getElem h]; rfl] at h1
  rw [List.map_set]; exact h1
theorem tot3 (W : Ws) (h : W.length = 3) : tot W = (W.getD 0 default).l.length + (W.getD 1 default).l.length + (W.getD 2 default).l.length := by
  match W, h with
  | [a, b, c], _ => simp [tot]; omega
theorem getD_set' {α : Type} [Inhabited α] (l : List α) (i k : Nat) (x : α) (h : i < l.length) : (l.set i x).getD k default = if k = i then x else l.getD k default := by
  rw [List.getD_eq_getElem?_getD, List.getD_eq_getElem?_getD, List.getElem?_set]
  by_cases e : i = k
  · subst e; simp [h]
  · rw [if_neg e, if_neg (Ne.symm e)]
theorem Jw.wf40 {W : Ws} {s : St} (h : Jw W s) (hw : Wf s) (hl : s.1.length = 3) {k : Nat} (hk : k < 3) : (W.getD k default).n ≤ 40 := by
  have h1 := (h.2 k hk)
  have := (hw.fl _ (at_mem (fs := s.1) (i := k) (by omega))).len
  rw [← h1.1] at this; omega
theorem Jw.comes {W : Ws} {s : St} (h : Jw W s) (hl : s.1.length = 3) {k : Nat} (hk : k < 3) {z : Int} (h40 : ¬ (W.getD k default).n = 40) (o : Option Addr) (c : Nat) : (comes s k z).2 = 0 ∧ Jw (W.set k ⟨o, (W.getD k default).n + 1, c, (W.getD k default).l ++ [z]⟩) (fair.comes s k z).1 := by
  have hk' := h.2 k hk
  have e40 : ¬ (at_ s.1 k).w.length = 40 := by rw [← hk'.1]; omega
  unfold fair.comes
  rw [if_neg e40]
  refine ⟨rfl, by simpa using h.1, fun j hj => ?_⟩
  rw [getD_set' W k j _ (by have := h.1; omega)]
  simp only
  rw [at_set (by omega)]
  by_cases e : j = k
  · subst e; simp only [if_true]; exact ⟨by rw [hk'.1], by simp only [List.length_append, List.length_cons, List.length_nil]; omega⟩
  · simp only [e, if_false]; exact h.2 j hj
theorem Jw.full {W : Ws} {s : St} (h : Jw W s) {k : Nat} (hk : k < 3) {z : Int} (h40 : (W.getD k default).n = 40) : (fair.comes s k z).2 = 9 ∧ (fair.comes s k z).1 = s := by
  have hk' := h.2 k hk
  have e40 : (at_ s.1 k).w.length = 40 := by rw [← hk'.1]; omega
  unfold fair.comes
  rw [if_pos e40]; exact ⟨rfl, rfl⟩
theorem Jw.none {W : Ws} {s : St} (h : Jw W s) (hw : Wf s) (hl : s.1.length = 3) (ht : s.2 = []) : tot W = 0 := by
  have : ∀ k, k < 3 → (W.getD k default).l.length = 0 := fun k hk => by
    have h1 := hw.act k
    rw [ht] at h1
    have h2 : (at_ s.1 k).w = [] := Decidable.byContradiction fun hc => by
      have := h1.2 ⟨by omega, hc⟩
      cases this
    rw [(h.2 k hk).1, h2]; rfl
  rw [tot3 W h.1, this 0 (by decide), this 1 (by decide), this 2 (by decide)]
theorem Jw.sends {W : Ws} {s s1 : St} {o : Nat × Int} (h : Jw W s) (hw : Wf s) (hl : s.1.length = 3) (hs : Sends s s1 o) :
    o.1 < 3 ∧ 0 < (W.getD o.1 default).n ∧ (W.getD o.1 default).l.getD 0 default = o.2 ∧ 0 < tot W ∧ ∀ (a : Option Addr) (c : Nat), Jw (W.set o.1 ⟨a, (W.getD o.1 default).n - 1, c, (W.getD o.1 default).l.tail⟩) s1 := by
  obtain ⟨a1, a2, a3, a4, a5, a6⟩ := sends_w hs hw
  have ho : o.1 < 3 := by omega
  have hk := h.2 o.1 ho
  rw [a4] at hk
  have hlen := congrArg List.length hk.1
  simp only [List.length_cons] at hlen
  have hpos : 0 < (W.getD o.1 default).l.length := by omega
  refine ⟨ho, by omega, by rw [hk.1]; rfl, ?_, fun a c => ⟨by simpa using h.1, fun j hj => ?_⟩⟩
  · have := tot_set W o.1 default (by have := h.1; omega)
    have e : (default : SlD Int).l.length = 0 := rfl
    omega
  · rw [getD_set' W o.1 j _ (by have := h.1; omega)]
    by_cases e : j = o.1
    · subst e; simp only [if_true]; exact ⟨by rw [hk.1]; rfl, by rw [List.length_tail]; omega⟩
    · simp only [e, if_false]; rw [a5 j e]; exact h.2 j hj
end fair
end Go.Proofs.Ytcabcpealkbekaa
