/-
  PLAIN LAW of packthreadkeep.SendAll: who hears nothing sends all again, each place once, and comes to an end. No program in sight.
-/
import Derived.Test.YtnikohhhfbdalaaSendR
namespace Go.Proofs.Ytnikohhhfbdalaa
set_option linter.unusedVariables false
namespace send
open hole
/-- how much of the ranges lies from a place on -/
def wF (a : Int) : List R → Int
  | [] => 0
  | r :: t => max 0 (r.2 - max r.1 a) + wF a t
theorem wF_step : ∀ (l : List R) (low a b : Int), chain low l → a ≤ b → wF a l - wF b l ≤ max 0 (b - max a low)
  | [], low, a, b, _, _ => by simp only [wF]; omega
  | r :: t, low, a, b, h, hab => by
    have ih := wF_step t r.2 a b h.2.2 hab
    have h1 := h.1
    have h2 := h.2.1
    simp only [wF]
    omega
theorem wF_same : ∀ (l : List R) (low a b : Int), chain low l → a ≤ b → (∀ x, a ≤ x → x < b → ¬ inn l x) → wF a l = wF b l
  | [], low, a, b, _, _, _ => rfl
  | r :: t, low, a, b, h, hab, hn => by
    have ih := wF_same t r.2 a b h.2.2 hab fun x h1 h2 hi => hn x h1 h2 ((inn_cons r t x).2 (.inr hi))
    have h2 := h.2.1
    simp only [wF]
    rw [ih]
    have hr : r.2 ≤ a ∨ b ≤ r.1 ∨ a = b := by
      apply Classical.byContradiction
      intro hc
      have h3 : a < r.2 := by omega
      have h4 : r.1 < b := by omega
      exact hn (max a r.1) (by omega) (by omega) ((inn_cons r t _).2 (.inl ⟨by omega, by omega⟩))
    omega
theorem wF_wide : ∀ (l : List R) (low a : Int), chain low l → a ≤ low → wF a l = wide l
  | [], _, _, _, _ => rfl
  | r :: t, low, a, h, ha => by
    have h1 := h.1
    have h2 := h.2.1
    simp only [wF, wide]
    rw [wF_wide t r.2 a h.2.2 (by omega)]
    omega
theorem wF_end : ∀ (l : List R) (low b : Int), chain low l → last low l ≤ b → wF b l = 0
  | [], _, _, _, _ => rfl
  | r :: t, low, b, h, hl => by
    have hle := chain_le t r.2 h.2.2
    have hl' : last r.2 t ≤ b := hl
    simp only [wF]
    rw [wF_end t r.2 b h.2.2 hl]
    omega
/-- the places from 'again' on that are to be sent again -/
def U (s : Se) : Int := s.next - s.again - wF s.again s.more
def psi (s : Se) : Nat := phi s + ((s.to2 - s.next + 63) / 64).toNat
/-- nothing more is sent -/
def Still (s : Se) : Prop := ¬ s.at_ < s.next ∧ s.to2 ≤ s.next
theorem Still.poll {s : Se} (h : Still s) : pollF s = (s, ⟨0, 0, [], false, false, true, s.left⟩) := by unfold pollF; rw [if_neg h.1, if_pos h.2]
theorem U_nonneg {s : Se} (k : SOk s) : 0 ≤ U s := by
  have h1 := wF_step s.more s.done s.again s.next k.may.ch k.a1
  have h2 := wF_end s.more s.done s.next k.may.ch k.la
  have h3 := k.a1
  unfold U
  omega
/-- what a poll that is not idle does -/
structure PollA (s : Se) (t : St) (s' : Se) : Prop where
  ge : s.again ≤ t.from_ ∨ t.again = false
  to : t.from_ + t.data.length ≤ s'.again
  sum : t.again = true → t.data.length + (if t.fin = true then 1 else 0) + U s' ≤ U s
  new : t.again = false → U s' = 0 ∧ s'.again = s'.next ∧ s.at_ = s.next
  psi : psi s' < psi s
theorem poll_not {s : Se} (k : SOk s) (h : (pollF s).2.idle = false) : PollA s (pollF s).2 (pollF s).1 := by
  have hne := k.ne
  have h0 := k.may.d0
  have ha := k.a0
  have ha1 := k.a1
  have hks := k.poll
  obtain ⟨g1, g2, g3⟩ := k.at1
  unfold pollF at h hks ⊢
  by_cases c : s.at_ < s.next
  · rw [if_pos c] at h hks ⊢
    have ho := k.old c
    obtain ⟨t1, t2⟩ := k.toA c
    obtain ⟨⟨p1, p2, p3, p4, p5, p6⟩, p7⟩ := piece_facts (s := s) (a := s.at_) (to := s.to1) (by omega) t1 (by omega)
    obtain ⟨b1, b2, _⟩ := aft_bd (s := s) (a := s.at_) (to := s.to1) (by omega) t1 (by omega)
    have u1 := wF_step s.more s.done s.again s.at_ k.may.ch g2
    have u2 := wF_same s.more s.done s.at_ (aftF s s.at_ s.to1) k.may.ch (by omega) fun x h1 h2 hi => ho.piece x h1 h2 (.inr hi)
    refine ⟨.inl g2, ?_, fun _ => ?_, fun h => (nomatch h), ?_⟩
    · simp only
      have : (if finF s s.at_ s.to1 = true then (1 : Int) else 0) ≥ 0 := by split <;> omega
      omega
    · unfold U
      simp only
      rw [← u2]
      omega
    · have := ho.phi
      show phi ({ s with again := aftF s s.at_ s.to1 } : Se) + ((s.to2 - s.next + 63) / 64).toNat < phi s + ((s.to2 - s.next + 63) / 64).toNat
      omega
  · rw [if_neg c] at h hks ⊢
    by_cases ht : s.to2 ≤ s.next
    · rw [if_pos ht] at h
      exact nomatch h
    · rw [if_neg ht] at h hks ⊢
      have ht2 : s.to2 ≤ s.end_ ∧ s.to2 ≤ s.edge := by unfold Se.to2; omega
      obtain ⟨⟨p1, p2, p3, p4, p5, p6⟩, p7⟩ := piece_facts (s := s) (a := s.next) (to := s.to2) (by omega) (by omega) ht2.1
      obtain ⟨b1, b2, b3, b4, b5⟩ := aft_bd (s := s) (a := s.next) (to := s.to2) (by omega) (by omega) ht2.1
      have hw : wF (aftF s s.next s.to2) s.more = 0 := wF_end s.more s.done _ k.may.ch (by have := k.la; omega)
      refine ⟨.inr rfl, ?_, fun h => (nomatch h), fun _ => ⟨?_, rfl, by omega⟩, ?_⟩
      · simp only
        have : (if finF s s.next s.to2 = true then (1 : Int) else 0) ≥ 0 := by split <;> omega
        omega
      · unfold U
        simp only
        rw [hw]; omega
      · have hle2 := SOk.len_end (s := s)
        have hf0 : (s.more.filter fun r => decide (aftF s s.next s.to2 < r.1)).length = 0 := by
          rw [List.length_eq_zero_iff, List.filter_eq_nil_iff]
          intro r hr hd
          have h1 := of_decide_eq_true hd
          have h2 := chain_mem _ _ k.may.ch r hr
          have h3 := k.la
          omega
        have h64 : aftF s s.next s.to2 = s.next + 64 ∨ aftF s s.next s.to2 = s.to2 := by
          unfold aftF
          have hst : stop s s.next s.to2 = min (min s.to2 (s.data.length : Int)) (s.next + 64) := rfl
          by_cases cf : finF s s.next s.to2 = true
          · rw [if_pos cf]
            have := of_decide_eq_true cf
            omega
          · rw [if_neg cf]
            have : ¬ (stop s s.next s.to2 = s.data.length ∧ stop s s.next s.to2 < s.to2) := fun hh => cf (decide_eq_true hh)
            omega
        show ((s.more.filter fun r => decide (aftF s s.next s.to2 < r.1)).length + ((aftF s s.next s.to2 - aftF s s.next s.to2 + 63) / 64).toNat) + ((s.to2 - aftF s s.next s.to2 + 63) / 64).toNat < ((s.more.filter fun r => decide (s.again < r.1)).length + ((s.next - s.again + 63) / 64).toNat) + ((s.to2 - s.next + 63) / 64).toNat
        rw [hf0]
        omega
theorem poll_idle {s : Se} (h : (pollF s).2.idle = true) : Still s ∧ (pollF s).1 = s := by
  unfold pollF at h ⊢
  by_cases c : s.at_ < s.next
  · rw [if_pos c] at h; exact nomatch h
  · rw [if_neg c] at h ⊢
    by_cases ht : s.to2 ≤ s.next
    · rw [if_pos ht] at h ⊢; exact ⟨⟨c, ht⟩, rfl⟩
    · rw [if_neg ht] at h; exact nomatch h
/-- the edge behind so many deeds -/
def DLaw : De → Prop
  | .heard a w _ => a + w ≤ 349
  | _ => True
theorem edge_step {s : Se} (k : SOk s) (d : De) (hd : DLaw d) (h : s.next ≤ s.edge) (b : Int) (hb : 349 ≤ b) (he : s.edge ≤ b) : (doF s d).1.next ≤ (doF s d).1.edge ∧ (doF s d).1.edge ≤ b + 1 := by
  cases d with
  | submit x =>
    show (submitF s x).2.next ≤ (submitF s x).2.edge ∧ (submitF s x).2.edge ≤ b + 1
    unfold submitF
    split
    · exact ⟨h, by show s.edge ≤ b + 1; omega⟩
    · split
      · exact ⟨h, by show s.edge ≤ b + 1; omega⟩
      · split
        · exact ⟨h, by show s.edge ≤ b + 1; omega⟩
        · exact ⟨h, by simp only; omega⟩
  | heard a w l =>
    show (heardF s a w l).2.next ≤ (heardF s a w l).2.edge ∧ (heardF s a w l).2.edge ≤ b + 1
    have hd' : a + w ≤ 349 := hd
    rcases heard_spec k a w l with ⟨e, _⟩ | ⟨_, e⟩
    · rw [e]; omega
    · rw [e.next, e.edge]; omega
  | poll =>
    show (pollF s).1.next ≤ (pollF s).1.edge ∧ (pollF s).1.edge ≤ b + 1
    unfold pollF
    split
    · exact ⟨h, by simp only; omega⟩
    · split
      · exact ⟨h, by simp only; omega⟩
      · have ht2 : s.to2 ≤ s.end_ ∧ s.to2 ≤ s.edge := by unfold Se.to2; omega
        have h0 := k.a0
        have h1 := k.a1
        obtain ⟨b1, b2, _⟩ := aft_bd (s := s) (a := s.next) (to := s.to2) (by omega) (by omega) ht2.1
        exact ⟨by simp only; omega, by simp only; omega⟩
  | timeout =>
    show (timeoutF s).next ≤ (timeoutF s).edge ∧ (timeoutF s).edge ≤ b + 1
    unfold timeoutF
    split
    · exact ⟨by simp only; omega, by simp only; omega⟩
    · exact ⟨h, by simp only; omega⟩
  | close => exact ⟨h, by show s.edge ≤ b + 1; omega⟩
theorem edge_run : ∀ (l : List De) (s : Se) (b : Int), SOk s → (∀ d ∈ l, DLaw d) → s.next ≤ s.edge → 349 ≤ b → s.edge ≤ b → (ends s l).next ≤ (ends s l).edge ∧ (ends s l).edge ≤ b + l.length
  | [], s, b, _, _, h, _, he => ⟨h, by show s.edge ≤ _; simp; omega⟩
  | d :: t, s, b, k, hd, h, hb, he => by
    obtain ⟨h1, h2⟩ := edge_step k d (hd d (by simp)) h b hb he
    obtain ⟨h3, h4⟩ := edge_run t _ (b + 1) (k.step d) (fun x hx => hd x (List.mem_cons_of_mem _ hx)) h1 (by omega) h2
    refine ⟨h3, ?_⟩
    show (ends (doF s d).1 t).edge ≤ _
    simp only [List.length_cons]
    omega
theorem psi_bd {s : Se} (k : SOk s) (h1 : s.next ≤ s.edge) (h2 : s.edge ≤ 600) : psi s ≤ 45 := by
  have hl := List.length_filter_le (fun r : R => decide (s.again < r.1)) s.more
  have hm := k.may.len
  have h0 := k.a0
  have h3 := k.a1
  have h4 : s.to2 ≤ s.edge := by unfold Se.to2; omega
  unfold psi phi
  omega
theorem U_done {s : Se} (k : SOk s) (h : s.again = s.done) : U s ≤ s.left := by
  have := wF_wide s.more s.done s.done k.may.ch (Int.le_refl _)
  have hn := k.ne
  unfold U Se.left
  rw [h, this]
  omega
theorem timeout_again (s : Se) : (timeoutF s).again = (timeoutF s).done := by unfold timeoutF; split <;> rfl
end send
end Go.Proofs.Ytnikohhhfbdalaa
