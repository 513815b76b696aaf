/-
  PLAIN LAW of packthreadkeep.FetchStill: what was not asked for changes nothing. No program in sight.
-/
import Derived.Test.YtpeidlaejjfmeaaFetchP
namespace Go.Proofs.Ytpeidlaejjfmeaa
set_option linter.unusedVariables false
namespace fetch
/-- wants of hundreds are at hundreds -/
structure Iv (f : Fe) : Prop where
  fr : f.front % 100 = 0
  w : ∀ x ∈ f.out, x.2 ≤ 100 ∧ (x.2 = 100 → x.1 % 100 = 0)
theorem Iv.ask {f : Fe} (k : Iv f) : Iv (ask1 f) := by
  have h := k.fr
  refine ⟨by simp only [ask1]; omega, fun x hx => ?_⟩
  rcases List.mem_append.1 hx with hx | hx
  · exact k.w x hx
  · obtain rfl := List.mem_singleton.1 hx
    exact ⟨by simp, fun _ => h⟩
theorem Iv.more : ∀ (k : Nat) (f : Fe) (l : List Wa), Iv f → Iv (fetch.more k f l).1
  | 0, _, _, h => h
  | k + 1, f, l, h => by
    unfold fetch.more
    split
    · exact Iv.more k _ _ h.ask
    · exact h
theorem Iv.new : Iv newF := ⟨by simp [newF], fun x hx => (nomatch hx)⟩
theorem got_cases (f : Fe) (g : Got) : ((gotF f g).1 = f ∧ (gotF f g).2.code ≠ 0) ∨ ((gotF f g).2.code = 0 ∧ idx f.out (g.at_, g.count) < f.out.length ∧ ¬ g.count < g.data.length ∧ gotF f g = onF (midF f g).1 (midF f g).2) := by
  unfold gotF
  split
  · exact .inl ⟨rfl, by simp⟩
  · split
    · exact .inl ⟨rfl, by simp⟩
    · rename_i h1 h2
      exact .inr ⟨rfl, by omega, h2, rfl⟩
theorem Iv.got {f : Fe} (k : Iv f) (g : Got) : Iv (gotF f g).1 := by
  rcases got_cases f g with ⟨h, _⟩ | ⟨_, hi, h2, h⟩
  · rw [h]; exact k
  · rw [h]
    have hin : (g.at_, g.count) ∈ f.out := by
      rw [← idx_lt hi, List.getD_eq_getElem?_getD, List.getElem?_eq_getElem hi]; exact List.getElem_mem _
    have hw := k.w _ hin
    simp only at hw
    have he : ∀ x ∈ f.out.eraseIdx (idx f.out (g.at_, g.count)), x.2 ≤ 100 ∧ (x.2 = 100 → x.1 % 100 = 0) := fun x hx => k.w x (List.mem_of_mem_eraseIdx hx)
    apply Iv.more
    unfold midF
    split
    · exact ⟨k.fr, he⟩
    · split
      · refine ⟨k.fr, fun x hx => ?_⟩
        rcases List.mem_append.1 hx with hx | hx
        · exact he x hx
        · obtain rfl := List.mem_singleton.1 hx
          exact ⟨by simp only; omega, fun h => by simp only at h; omega⟩
      · exact ⟨k.fr, he⟩
theorem Iv.ends : ∀ {l : List Got} {f : Fe}, Iv f → Iv (ends f l)
  | [], _, k => k
  | a :: t, f, k => Iv.ends (l := t) (k.got a)
/-- what was never asked for is refused -/
theorem odd_no {f : Fe} (k : Iv f) (z : Int) : gotF f ⟨1 + z % 99, 100, []⟩ = (f, ⟨7, [], false, []⟩) := by
  unfold gotF
  rw [if_pos]
  apply Classical.byContradiction
  intro hc
  have hi : idx f.out (1 + z % 99, 100) < f.out.length := by simp only at hc; omega
  have hin : ((1 + z % 99, 100) : Wa) ∈ f.out := by
    rw [← idx_lt hi, List.getD_eq_getElem?_getD, List.getElem?_eq_getElem hi]; exact List.getElem_mem _
  have h := (k.w _ hin).2 rfl
  simp only at h
  omega
theorem runs_at : ∀ (l : List Got) (h : Fe) (k : Nat), k < l.length → (runs h l).getD k default = (gotF (ends h (l.take k)) (l.getD k default)).2 ∧ ends h (l.take (k + 1)) = (gotF (ends h (l.take k)) (l.getD k default)).1
  | [], h, k, hk => absurd hk (Nat.not_lt_zero _)
  | a :: t, h, 0, _ => ⟨rfl, rfl⟩
  | a :: t, h, k + 1, hk => by
    have := runs_at t (gotF h a).1 k (by simpa using hk)
    simpa [runs, ends] using this
theorem first_six : (onF newF []).2.wants.length = 6 ∧ (onF newF []).2.code = 0 := by decide
end fetch
end Go.Proofs.Ytpeidlaejjfmeaa
