/-
  WHO SENDS, IN PLAIN LEAN: polls one behind the other tell each place that is not heard of, once. No program in sight.
-/
import Derived.Test.YtkinpmbokkfpbaaSendQ
namespace Go.Proofs.Ytkinpmbokkfpbaa
set_option linter.unusedVariables false
namespace send
open hole
def polls (n : Nat) : List De := List.replicate n .poll
/-- how often a place is told -/
def cov (l : List St) (p : Int) : Nat := (l.filter fun t => decide (t.from_ ≤ p) && decide (p < t.from_ + t.data.length)).length
theorem cov_cons (t : St) (l : List St) (p : Int) : cov (t :: l) p = (if t.from_ ≤ p ∧ p < t.from_ + t.data.length then 1 else 0) + cov l p := by
  unfold cov
  rw [List.filter_cons]
  by_cases h : t.from_ ≤ p ∧ p < t.from_ + t.data.length
  · rw [if_pos h, if_pos (by simp [h.1, h.2]), List.length_cons]; omega
  · rw [if_neg h, if_neg (by simpa using h)]; omega
/-- how many polls there may be -/
def phi (s : Se) : Nat := (s.more.filter fun r => decide (s.again < r.1)).length + ((s.next - s.again + 63) / 64).toNat
theorem filter_le {α : Type} (p q : α → Bool) (h : ∀ x, q x = true → p x = true) : ∀ l : List α, (l.filter q).length ≤ (l.filter p).length
  | [] => Nat.le_refl _
  | a :: l => by
    have ih := filter_le p q h l
    rw [List.filter_cons, List.filter_cons]
    split
    · rename_i c
      rw [if_pos (h a c)]
      simp only [List.length_cons]; omega
    · split
      · simp only [List.length_cons]; omega
      · exact ih
theorem filter_lt {α : Type} (p q : α → Bool) (h : ∀ x, q x = true → p x = true) : ∀ (l : List α) (y : α), y ∈ l → p y = true → q y = false → (l.filter q).length < (l.filter p).length
  | [], y, hy, _, _ => by simp at hy
  | a :: l, y, hy, hp, hq => by
    rw [List.filter_cons, List.filter_cons]
    rcases List.mem_cons.1 hy with rfl | hy
    · rw [if_pos hp, if_neg (by rw [hq]; decide), List.length_cons]
      exact Nat.lt_succ_of_le (filter_le p q h l)
    · have ih := filter_lt p q h l y hy hp hq
      split
      · rename_i c
        rw [if_pos (h a c)]
        simp only [List.length_cons]; omega
      · split
        · simp only [List.length_cons]; omega
        · exact ih
theorem not_knows {s : Se} (k : SOk s) {x : Int} (h1 : s.done ≤ x) (h2 : ¬ inn s.more x) : ¬ knows s.done s.more x := fun h => h.elim (fun h => by omega) h2
/-- what a piece that is sent again is of -/
structure Old (s : Se) : Prop where
  lt : s.at_ < s.next
  ahead : ∀ x, s.again ≤ x → x < s.at_ → knows s.done s.more x
  piece : ∀ x, s.at_ ≤ x → x < aftF s s.at_ s.to1 → ¬ knows s.done s.more x
  phi : phi { s with again := aftF s s.at_ s.to1 } < phi s
theorem at_known {s : Se} (k : SOk s) : ∀ x, s.again ≤ x → x < s.at_ → knows s.done s.more x := by
  intro x h1 h2
  by_cases h3 : x < s.done
  · exact .inl h3
  · obtain ⟨_, i2⟩ := hops_spec s.more s.done (max s.again s.done) k.may.ch
    have : s.at_ ≤ hops (max s.again s.done) s.more := by unfold Se.at_ first; omega
    exact .inr (i2 x (by omega) (by omega))
theorem at_unknown {s : Se} (k : SOk s) (h : s.at_ < s.next) : ¬ inn s.more s.at_ := by
  obtain ⟨i1, _⟩ := hops_spec s.more s.done (max s.again s.done) k.may.ch
  have : s.at_ = hops (max s.again s.done) s.more := by unfold Se.at_ first at h ⊢; omega
  rw [this]; exact i1
theorem SOk.old {s : Se} (k : SOk s) (h : s.at_ < s.next) : Old s := by
  have hne := k.ne
  have h0 := k.may.d0
  have ha := k.a0
  obtain ⟨g1, g2, g3⟩ := k.at1
  obtain ⟨t1, t2⟩ := k.toA h
  obtain ⟨b1, b2, b3, b4, b5⟩ := aft_bd (s := s) (a := s.at_) (to := s.to1) (by omega) t1 (by omega)
  obtain ⟨_, _, u3, u4⟩ := upto_spec s.more s.done s.at_ s.next k.may.ch k.la h
  have hun := at_unknown k h
  refine ⟨h, at_known k, fun x h1 h2 => not_knows k (by omega) (u4 hun x h1 (by show x < s.to1; omega)), ?_⟩
  unfold phi
  simp only
  have hle : (s.more.filter fun r => decide (aftF s s.at_ s.to1 < r.1)).length ≤ (s.more.filter fun r => decide (s.again < r.1)).length :=
    filter_le _ _ (fun r hr => by have := of_decide_eq_true hr; exact decide_eq_true (by omega)) _
  by_cases e : aftF s s.at_ s.to1 = s.to1
  · rcases u3 with ⟨u, _⟩ | u
    · have : s.to1 = s.next := u
      omega
    · -- the next range begins there
      have hb : ∃ r ∈ s.more, r.1 = s.to1 ∧ s.at_ < r.1 := by
        have key : ∀ (l : List R) (d : Int), chain d l → inn l (upto s.at_ l s.next) → s.at_ < upto s.at_ l s.next → (∃ r ∈ l, r.1 = upto s.at_ l s.next ∧ s.at_ < r.1) ∨ (∀ r ∈ l, r.1 ≤ s.at_) := by
          intro l
          induction l with
          | nil => intro d _ hi _; exact absurd hi (inn_nil _)
          | cons r t ih =>
            intro d hc hi hlt
            have eq : upto s.at_ (r :: t) s.next = if s.at_ < r.1 then r.1 else upto s.at_ t s.next := rfl
            by_cases c : s.at_ < r.1
            · exact .inl ⟨r, by simp, by rw [eq, if_pos c], c⟩
            · rw [eq, if_neg c] at hi hlt ⊢
              by_cases hall : ∀ q ∈ t, q.1 ≤ s.at_
              · exact .inr fun q hq => (List.mem_cons.1 hq).elim (fun e => by subst e; omega) (hall q)
              · have hin : inn t (upto s.at_ t s.next) := by
                  rcases (inn_cons r t _).1 hi with hk | hk
                  · have hex : ∃ q ∈ t, ¬ q.1 ≤ s.at_ := by
                      exact Classical.byContradiction fun hno => hall fun q hq => Classical.byContradiction fun hn => hno ⟨q, hq, hn⟩
                    obtain ⟨q, hq, hq1⟩ := hex
                    have aux : ∀ (l : List R) (d : Int), chain d l → ∀ q ∈ l, ¬ q.1 ≤ s.at_ → ∃ p ∈ l, p.1 = upto s.at_ l s.next := by
                      intro l
                      induction l with
                      | nil => intro d _ q hq; simp at hq
                      | cons r t ih =>
                        intro d hc q hq hn
                        have eq : upto s.at_ (r :: t) s.next = if s.at_ < r.1 then r.1 else upto s.at_ t s.next := rfl
                        rw [eq]
                        by_cases c : s.at_ < r.1
                        · rw [if_pos c]; exact ⟨r, by simp, rfl⟩
                        · rw [if_neg c]
                          rcases List.mem_cons.1 hq with rfl | hq
                          · omega
                          · obtain ⟨p, hp, hp'⟩ := ih r.2 hc.2.2 q hq hn
                            exact ⟨p, List.mem_cons_of_mem _ hp, hp'⟩
                    obtain ⟨p, hp, hp'⟩ := aux t r.2 hc.2.2 q hq hq1
                    have := chain_mem t r.2 hc.2.2 p hp
                    exact ⟨p, hp, by omega, by omega⟩
                  · exact hk
                rcases ih r.2 hc.2.2 hin hlt with ⟨q, hq, h'⟩ | h'
                · exact .inl ⟨q, List.mem_cons_of_mem _ hq, h'⟩
                · exact absurd h' hall
        rcases key s.more s.done k.may.ch u (by show s.at_ < s.to1; exact t1) with h' | h'
        · exact h'
        · obtain ⟨r, hr, hr1, hr2⟩ := u
          have := h' r hr
          exfalso
          exact hun ⟨r, hr, by omega, by have : s.at_ < s.to1 := t1; have : upto s.at_ s.more s.next = s.to1 := rfl; omega⟩
      obtain ⟨r, hr, hr1, hr2⟩ := hb
      have := filter_lt (fun r : R => decide (s.again < r.1)) (fun r => decide (aftF s s.at_ s.to1 < r.1)) (fun r hr => by have := of_decide_eq_true hr; exact decide_eq_true (by omega)) s.more r hr (decide_eq_true (by omega)) (decide_eq_false (by omega))
      omega
  · have hle2 := SOk.len_end (s := s)
    have h64 : aftF s s.at_ s.to1 = s.at_ + 64 ∨ s.to1 ≤ aftF s s.at_ s.to1 ∨ aftF s s.at_ s.to1 = s.data.length := by
      unfold aftF at e ⊢
      have hst : stop s s.at_ s.to1 = min (min s.to1 (s.data.length : Int)) (s.at_ + 64) := rfl
      by_cases c : finF s s.at_ s.to1 = true
      · rw [if_pos c] at e ⊢
        have := of_decide_eq_true c
        omega
      · rw [if_neg c] at e ⊢
        omega
    rcases h64 with h' | h' | h'
    · omega
    · omega
    · -- all data, yet not to the end: then its end was told with it
      exfalso
      have hst : stop s s.at_ s.to1 = min (min s.to1 (s.data.length : Int)) (s.at_ + 64) := rfl
      unfold aftF at e h'
      by_cases c : finF s s.at_ s.to1 = true
      · rw [if_pos c] at e h'
        have := of_decide_eq_true c
        omega
      · rw [if_neg c] at e h'
        have : ¬ (stop s s.at_ s.to1 = s.data.length ∧ stop s s.at_ s.to1 < s.to1) := fun hh => c (decide_eq_true hh)
        omega
theorem polls_succ (n : Nat) : polls (n + 1) = .poll :: polls n := rfl
/-- all is sent: polls tell what is not known, from 'again' on, each place once -/
theorem again_run : ∀ (j : Nat) (s : Se), SOk s → s.closed = false → s.to2 ≤ s.next → phi s ≤ j →
    (∀ p, 0 ≤ p → p < s.next → (s.again ≤ p ∧ ¬ knows s.done s.more p → cov (runs s (polls j)) p = 1) ∧ (¬ (s.again ≤ p ∧ ¬ knows s.done s.more p) → cov (runs s (polls j)) p = 0)) ∧
    (∀ t ∈ runs s (polls j), 0 ≤ t.from_ ∧ t.from_ + t.data.length ≤ s.next) ∧
    (ends s (polls j)).data = s.data ∧ (ends s (polls j)).closed = false ∧ (ends s (polls j)).done = s.done ∧ (ends s (polls j)).more = s.more ∧ (ends s (polls j)).next = s.next ∧ (ends s (polls j)).edge = s.edge
  | 0, s, k, hc, ht, hp => by
    refine ⟨fun p h0 h1 => ⟨fun h => ?_, fun _ => rfl⟩, fun t h => (nomatch h), rfl, hc, rfl, rfl, rfl, rfl⟩
    unfold phi at hp
    have := k.a1
    omega
  | j + 1, s, k, hc, ht, hp => by
    rw [polls_succ]
    simp only [runs, ends, doF]
    have hne := k.ne
    have h0 := k.may.d0
    have ha := k.a0
    have ha1 := k.a1
    obtain ⟨g1, g2, g3⟩ := k.at1
    have hks := k.poll
    by_cases c : s.at_ < s.next
    · have hP : pollF s = ({ s with again := aftF s s.at_ s.to1 }, ⟨0, s.at_, pieceF s s.at_ s.to1, finF s s.at_ s.to1, true, false, s.left⟩) := by unfold pollF; rw [if_pos c]
      rw [hP] at hks ⊢
      have ho := k.old c
      obtain ⟨t1, t2⟩ := k.toA c
      obtain ⟨⟨p1, p2, p3, p4, p5, p6⟩, p7⟩ := piece_facts (s := s) (a := s.at_) (to := s.to1) (by omega) t1 (by omega)
      have hfin : finF s s.at_ s.to1 = false := by
        cases hf : finF s s.at_ s.to1 with
        | false => rfl
        | true => rw [(p5 hf).1] at hc; exact nomatch hc
      rw [hfin] at p7 ⊢
      have p7' : s.at_ + ((pieceF s s.at_ s.to1).length : Int) = aftF s s.at_ s.to1 := by simpa using p7
      obtain ⟨b1, b2, _⟩ := aft_bd (s := s) (a := s.at_) (to := s.to1) (by omega) t1 (by omega)
      have hlt := ho.phi
      obtain ⟨i1, i2, i3, i4, i5, i6, i7, i8⟩ := again_run j { s with again := aftF s s.at_ s.to1 } hks hc ht (by omega)
      refine ⟨fun p q0 q1 => ?_, fun t ht => ?_, i3, i4, i5, i6, i7, i8⟩
      · obtain ⟨j1, j2⟩ := i1 p q0 q1
        simp only at j1 j2
        rw [cov_cons]
        simp only
        rw [p7']
        refine ⟨fun ⟨e1, e2⟩ => ?_, fun e => ?_⟩
        · have hge : s.at_ ≤ p := Classical.byContradiction fun hn => e2 (ho.ahead p e1 (by omega))
          by_cases hlt : p < aftF s s.at_ s.to1
          · rw [if_pos ⟨hge, hlt⟩, j2 (fun hh => by omega)]
          · rw [if_neg (fun hh => hlt hh.2), j1 ⟨by omega, e2⟩]
        · by_cases hin : s.at_ ≤ p ∧ p < aftF s s.at_ s.to1
          · exact absurd ⟨by omega, ho.piece p hin.1 hin.2⟩ e
          · rw [if_neg hin, j2 (fun hh => e ⟨by omega, hh.2⟩)]
      · rcases List.mem_cons.1 ht with rfl | ht
        · exact ⟨by simp only; omega, by simp only; omega⟩
        · exact i2 t ht
    · have hP : pollF s = (s, ⟨0, 0, [], false, false, true, s.left⟩) := by unfold pollF; rw [if_neg c, if_pos ht]
      rw [hP]
      have hat : s.at_ = s.next := by omega
      -- nothing is unknown from 'again' on
      have hall : ∀ p, s.again ≤ p → p < s.next → knows s.done s.more p := fun p e1 e2 => at_known k p e1 (by omega)
      have hst : ∀ i, runs s (polls i) = List.replicate i ⟨0, 0, [], false, false, true, s.left⟩ ∧ ends s (polls i) = s := by
        intro i
        induction i with
        | zero => exact ⟨rfl, rfl⟩
        | succ i ih =>
          rw [polls_succ]
          simp only [runs, ends, doF]
          rw [hP]
          exact ⟨by rw [ih.1]; rfl, ih.2⟩
      rw [(hst j).1, (hst j).2]
      have hz : ∀ i (p : Int), cov (List.replicate i (⟨0, 0, [], false, false, true, s.left⟩ : St)) p = 0 := by
        intro i p
        induction i with
        | zero => rfl
        | succ i ih =>
          rw [List.replicate_succ, cov_cons, ih, if_neg (by simp only [List.length_nil]; omega)]
      refine ⟨fun p q0 q1 => ⟨fun e => absurd (hall p e.1 q1) e.2, fun _ => ?_⟩, fun t ht => ?_, rfl, hc, rfl, rfl, rfl, rfl⟩
      · rw [← List.replicate_succ]; exact hz (j + 1) p
      · rw [← List.replicate_succ] at ht
        have := List.eq_of_mem_replicate ht
        rw [this]
        exact ⟨by simp, by simp only [List.length_nil]; omega⟩
/-- at the beginning polls send all, a segment at a time -/
theorem new_run : ∀ (j : Nat) (s : Se), SOk s → s.closed = false → s.more = [] → s.again = s.next → (s.data.length : Int) ≤ s.edge → (s.data.length : Int) - s.next ≤ 64 * j →
    (ends s (polls j)).data = s.data ∧ (ends s (polls j)).closed = false ∧ (ends s (polls j)).done = s.done ∧ (ends s (polls j)).more = [] ∧ (ends s (polls j)).next = s.data.length ∧ (ends s (polls j)).again = s.data.length ∧ (ends s (polls j)).edge = s.edge
  | 0, s, k, hc, hm, hag, he, hp => by
    have hne := k.ne
    have hee : s.end_ = s.data.length := by unfold Se.end_; rw [if_neg (by rw [hc]; decide)]
    refine ⟨rfl, hc, rfl, hm, ?_, ?_, rfl⟩
    · show s.next = _; omega
    · show s.again = _; omega
  | j + 1, s, k, hc, hm, hag, he, hp => by
    rw [polls_succ]
    simp only [ends, doF]
    have hne := k.ne
    have hks := k.poll
    have h0 := k.a0
    have hee : s.end_ = s.data.length := by unfold Se.end_; rw [if_neg (by rw [hc]; decide)]
    obtain ⟨g1, g2, g3⟩ := k.at1
    have c : ¬ s.at_ < s.next := by omega
    by_cases ht : s.to2 ≤ s.next
    · have hP : pollF s = (s, ⟨0, 0, [], false, false, true, s.left⟩) := by unfold pollF; rw [if_neg c, if_pos ht]
      rw [hP]
      have : s.to2 = s.data.length := by unfold Se.to2; omega
      exact new_run j s k hc hm hag he (by omega)
    · have hP : pollF s = ({ s with next := aftF s s.next s.to2, again := aftF s s.next s.to2 }, ⟨0, s.next, pieceF s s.next s.to2, finF s s.next s.to2, false, false, s.left⟩) := by unfold pollF; rw [if_neg c, if_neg ht]
      rw [hP] at hks ⊢
      have ht2 : s.to2 = s.data.length := by unfold Se.to2; omega
      have hfin : finF s s.next s.to2 = false := by unfold finF; rw [ht2]; exact decide_eq_false (by omega)
      have haft : aftF s s.next s.to2 = min (s.data.length : Int) (s.next + 64) := by
        unfold aftF
        rw [if_neg (by rw [hfin]; decide), ht2]
        unfold stop; omega
      have := new_run j { s with next := aftF s s.next s.to2, again := aftF s s.next s.to2 } hks hc hm rfl he (by simp only; omega)
      exact this
end send
end Go.Proofs.Ytkinpmbokkfpbaa
