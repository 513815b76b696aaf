/-
  PLAIN MODEL of package fair, second part: plays of events. No program in sight.
-/
import Derived.Test.YtcabcpealkbekaaFairP
namespace Go.Proofs.Ytcabcpealkbekaa
set_option linter.unusedVariables false
set_option linter.unusedSimpArgs false

namespace fair
theorem sends_w {s s1 : St} {o : Nat × Int} (h : Sends s s1 o) : Wf s → Wf s1 ∧ s1.1.length = s.1.length ∧ o.1 < s.1.length ∧ (at_ s.1 o.1).w = o.2 :: (at_ s1.1 o.1).w ∧ (∀ k, k ≠ o.1 → (at_ s1.1 k).w = (at_ s.1 k).w) ∧ ∀ k, (at_ s1.1 k).q = (at_ s.1 k).q := by
  induction h with
  | now fs i T h =>
    intro hw
    have hi : i < fs.length := ((hw.act i).1 (by simp)).1
    have hne := ((hw.act i).1 (by simp)).2
    refine ⟨sent_wf hw h, by simp [sent], hi, ?_, fun k hk => ?_, fun k => ?_⟩
    · simp only [sent, at_set hi, if_true]
      have e : (at_ fs i).w ≠ [] := hne
      cases hq : (at_ fs i).w with
      | nil => exact absurd hq e
      | cons a t => by_cases ht : t = [] <;> simp [less, hq, ht]
    · simp only [sent, at_set hi]
      rw [if_neg hk]
    · simp only [sent, at_set hi]
      split
      · rename_i e; subst e; unfold less; split <;> rfl
      · rfl
  | later fs i T s o h k ih =>
    intro hw
    have hi : i < fs.length := ((hw.act i).1 (by simp)).1
    obtain ⟨a1, a2, a3, a4, a5, a6⟩ := ih (rot_wf hw h)
    have e : ∀ k, (at_ (rot fs i T).1 k).w = (at_ fs k).w := fun k => by
      simp only [rot, at_set hi]; split
      · rename_i e; subst e; rfl
      · rfl
    have e2 : ∀ k, (at_ (rot fs i T).1 k).q = (at_ fs k).q := fun k => by
      simp only [rot, at_set hi]; split
      · rename_i e; subst e; rfl
      · rfl
    refine ⟨a1, by rw [a2]; simp [rot], by simpa [rot] using a3, ?_, fun k hk => ?_, fun k => ?_⟩
    · rw [← e]; exact a4
    · rw [a5 k hk, e]
    · rw [a6 k, e2]
/-- one event, and what it comes to -/
inductive Step : St → Nat × Int → Int × Nat × Int → St → Prop
  | comes (s : St) (i : Nat) (z : Int) (hz : 1 ≤ z) : Step s (i, z) ((comes s i z).2, 0, 0) (comes s i z).1
  | none (s : St) (i : Nat) (z : Int) (hz : z = 0) (hn : s.2 = []) : Step s (i, z) (7, 0, 0) s
  | sends (s s1 : St) (i : Nat) (z : Int) (o : Nat × Int) (hz : z = 0) (hs : Sends s s1 o) : Step s (i, z) (0, o.1, o.2) s1
inductive Plays : St → List (Nat × Int) → List (Int × Nat × Int) → St → Prop
  | nil (s : St) : Plays s [] [] s
  | cons {s s1 s2 : St} {f : Nat × Int} {o : Int × Nat × Int} {fs : List (Nat × Int)} {os : List (Int × Nat × Int)} (h : Step s f o s1) (k : Plays s1 fs os s2) : Plays s (f :: fs) (o :: os) s2
theorem Plays.snoc {s s1 s2 : St} {f : Nat × Int} {o : Int × Nat × Int} {fs : List (Nat × Int)} {os : List (Int × Nat × Int)} (h : Plays s fs os s1) (k : Step s1 f o s2) : Plays s (fs ++ [f]) (os ++ [o]) s2 := by
  induction h with
  | nil s => exact .cons k (.nil _)
  | cons h _ ih => exact .cons h (ih k)
theorem Plays.len {s s1 : St} {fs : List (Nat × Int)} {os : List (Int × Nat × Int)} (h : Plays s fs os s1) : os.length = fs.length := by
  induction h with
  | nil s => rfl
  | cons h _ ih => simp [ih]
theorem Plays.next {s e : St} {fs : List (Nat × Int)} {os : List (Int × Nat × Int)} {i : Nat} (h : Plays s (fs.drop i) (os.drop i) e) (hi : i < fs.length) : i < os.length ∧ ∃ s1, Step s (fs.getD i default) (os.getD i default) s1 ∧ Plays s1 (fs.drop (i + 1)) (os.drop (i + 1)) e := by
  have hl := h.len
  rw [List.length_drop, List.length_drop] at hl
  have hi' : i < os.length := by omega
  rw [List.drop_eq_getElem_cons hi, List.drop_eq_getElem_cons hi'] at h
  refine ⟨hi', ?_⟩
  cases h with
  | cons a b =>
    refine ⟨_, ?_, b⟩
    rw [List.getD_eq_getElem?_getD, List.getD_eq_getElem?_getD, List.getElem?_eq_getElem hi, List.getElem?_eq_getElem hi']
    exact a
theorem step_wf {s s1 : St} {f : Nat × Int} {o : Int × Nat × Int} (h : Step s f o s1) (hw : Wf s) (hi : f.1 < s.1.length) (hz : f.2 ≤ 1500) : Wf s1 ∧ s1.1.length = s.1.length := by
  cases h with
  | comes i z h0 => exact ⟨comes_wf hw hi ⟨h0, hz⟩, by unfold comes; split <;> simp⟩
  | none i z h0 h => exact ⟨hw, rfl⟩
  | sends _ i z o h0 h => have := sends_w h hw; exact ⟨this.1, this.2.1⟩
theorem comes_q (s : St) (i : Nat) (z : Int) (k : Nat) : (at_ (comes s i z).1.1 k).q = (at_ s.1 k).q := by
  unfold comes; split
  · rfl
  · simp only
    by_cases hi : i < s.1.length
    · rw [at_set hi]; split
      · rename_i e; subst e; rfl
      · rfl
    · rw [List.set_eq_of_length_le (by omega)]
theorem Step.det {s s1 s2 : St} {f : Nat × Int} {o o2 : Int × Nat × Int} (h : Step s f o s1) (h2 : Step s f o2 s2) : o = o2 ∧ s1 = s2 := by
  cases h with
  | comes i z h0 => cases h2 with
    | comes _ _ _ => exact ⟨rfl, rfl⟩
    | none _ _ h1 _ => omega
    | sends _ _ _ h1 _ => omega
  | none i z h0 h => cases h2 with
    | comes _ _ _ => omega
    | none _ _ h1 _ => exact ⟨rfl, rfl⟩
    | sends _ _ _ o h1 k => cases k <;> simp at h
  | sends _ i z o h0 h => cases h2 with
    | comes _ _ _ => omega
    | none _ _ h1 k => cases h <;> simp at k
    | sends _ _ _ o h1 k =>
      obtain ⟨e1, e2⟩ := h.det k
      subst e1; subst e2; exact ⟨rfl, rfl⟩
theorem Plays.det {s s1 s2 : St} {fs : List (Nat × Int)} {os os2 : List (Int × Nat × Int)} (h : Plays s fs os s1) : Plays s fs os2 s2 → os = os2 ∧ s1 = s2 := by
  induction h generalizing os2 with
  | nil s => intro k; cases k; exact ⟨rfl, rfl⟩
  | cons h _ ih => intro k; cases k with
    | cons a b =>
      obtain ⟨rfl, rfl⟩ := h.det a
      obtain ⟨rfl, rfl⟩ := ih b
      exact ⟨rfl, rfl⟩
/-- the flows as they begin -/
def fresh (Q : List Int) : St := (Q.map fun q => ⟨q, [], 0, false⟩, [])
theorem fresh_at (Q : List Int) (i : Nat) : (at_ (fresh Q).1 i).w = [] ∧ (at_ (fresh Q).1 i).q = if i < Q.length then Q.getD i 0 else 0 := by
  unfold at_ fresh
  simp only [List.getD_eq_getElem?_getD, List.getElem?_map]
  by_cases h : i < Q.length
  · simp [List.getElem?_eq_getElem h, h]
  · rw [List.getElem?_eq_none (by omega)]; simp [h]; exact ⟨rfl, rfl⟩
theorem fresh_wf {Q : List Int} (hl : Q.length ≤ 6) (hq : ∀ q ∈ Q, 1 ≤ q ∧ q ≤ 1500) : Wf (fresh Q) := by
  refine ⟨fun x hx => ?_, by simpa [fresh] using hl, List.nodup_nil, fun i => ?_⟩
  · obtain ⟨q, h1, rfl⟩ := List.mem_map.1 hx
    exact ⟨hq q h1, by simp, by simp, by simp, fun _ => by simp⟩
  · have := (fresh_at Q i).1
    unfold at_ at this
    simp only [this]
    simp [fresh]
theorem one_out : ∀ {s : St} {os : List (Int × Nat × Int)}, Plays (fresh [3]) [(0, 7), (0, 0)] os s → os = [(0, 0, 0), (0, 0, 7)] := by
  intro s os h
  have h1 : Sends ([⟨3, [7], 0, false⟩], [0]) ([⟨3, [], 0, false⟩], []) (0, 7) := by
    refine .later _ _ _ _ _ (by decide) (.later _ _ _ _ _ (by decide) ?_)
    exact .now [⟨3, [7], 6, false⟩] 0 [] (by decide)
  have h2 : Plays (fresh [3]) [(0, 7), (0, 0)] [(0, 0, 0), (0, 0, 7)] ([⟨3, [], 0, false⟩], []) :=
    .cons (.comes _ 0 7 (by decide)) (.cons (.sends _ _ 0 0 (0, 7) rfl h1) (.nil _))
  exact (h.det h2).1
end fair
end Go.Proofs.Ytcabcpealkbekaa
