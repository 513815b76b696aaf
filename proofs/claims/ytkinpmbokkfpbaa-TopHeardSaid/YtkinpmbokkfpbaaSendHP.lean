/-
  PLAIN LAW of packthreadkeep.SendHeard: what is heard of is not told again; when all is heard of nothing is left. No program in sight.
-/
import Derived.Test.YtkinpmbokkfpbaaSendR
namespace Go.Proofs.Ytkinpmbokkfpbaa
set_option linter.unusedVariables false
namespace send
open hole
def heardD (d : List UInt8) (k f t : Int) : List De := [.submit d] ++ polls 10 ++ [.heard k 0 [(f, t)], .timeout] ++ polls 12 ++ [.heard d.length 0 [], .timeout, .poll]
structure HeardL (d : List UInt8) (k f t : Int) (l : List St) : Prop where
  len : l.length = 28
  cov : ∀ p, 0 ≤ p → p < (d.length : Int) → cov ((l.drop 13).take 12) p = if p < k ∨ f ≤ p ∧ p < t then 0 else 1
  bd : ∀ x ∈ (l.drop 13).take 12, 0 ≤ x.from_ ∧ x.from_ + x.data.length ≤ (d.length : Int)
  idle : (l.getD 27 default).idle = true
  left : (l.getD 27 default).left = 0
theorem polls_len (n : Nat) : (polls n).length = n := by unfold polls; simp
theorem heard_ok {s : Se} (k : SOk s) (ack win : Int) (l : List R) (h1 : 0 ≤ ack ∧ ack ≤ s.next ∧ 0 ≤ win ∧ win ≤ 65535) (h2 : l.length ≤ 3) (h3 : ∀ r ∈ l, 0 ≤ r.1 ∧ r.1 < r.2 ∧ r.2 ≤ s.next) (h4 : s.more.length + l.length + 1 ≤ 16) : Heard s ack win l (heardF s ack win l).2 := by
  rcases heard_spec k ack win l with ⟨_, h⟩ | ⟨_, h⟩
  · exfalso
    apply h
    have hodd : ¬ l.any (odd s.next) = true := by
      intro ha
      obtain ⟨r, hr, ho⟩ := List.any_eq_true.1 ha
      have := h3 r hr
      unfold odd at ho
      simp only [Bool.or_eq_true, decide_eq_true_eq] at ho
      omega
    have hadds : ∀ (l : List R) (st : Int × List R), chain st.1 st.2 → st.2.length + l.length ≤ 16 → ∃ st', adds st l = some st' := by
      intro l
      induction l with
      | nil => intro st _ _; exact ⟨st, rfl⟩
      | cons r t ih =>
        intro st hc hl
        have ha := added st.1 st.2 r hc
        have hal := ha.len
        simp only [List.length_cons] at hl
        simp only [adds]
        rw [if_neg (by omega)]
        exact ih _ ha.ch (by omega)
    obtain ⟨st', hst⟩ := hadds ((0, ack) :: l) (s.done, s.more) k.may.ch (by simp only [List.length_cons]; omega)
    unfold heardF
    rw [if_neg (by omega), if_neg (by omega), if_neg hodd, hst]
  · exact h
theorem all_known {s : Se} {n : Int} (hm : May s.done s.more) (hl : last s.done s.more ≤ n) (hk : ∀ x, 0 ≤ x → x < n → knows s.done s.more x) : s.done = n ∧ s.more = [] := by
  have hle := chain_le _ _ hm.ch
  have h0 := hm.d0
  have hn : ¬ s.done < n := fun h => knows_d hm.ch (hk s.done h0 h)
  refine ⟨by omega, ?_⟩
  cases hs : s.more with
  | nil => rfl
  | cons r t =>
    have hc := hm.ch
    rw [hs] at hc hl
    have := (chain_mem _ _ hc r (by simp)).2.2
    have h1 := hc.1
    have h2 := hc.2.1
    omega
theorem heard_law (d : List UInt8) (hd : 3 ≤ d.length ∧ d.length ≤ 203) (k f t : Int) (hk : 0 ≤ k ∧ k ≤ d.length) (hf : 0 ≤ f ∧ f < t ∧ t ≤ d.length) : HeardL d k f t (runs (newF 1000) (heardD d k f t)) := by
  have hH : SOk (newF 1000) := SOk.new (by omega)
  -- all is submitted
  have e1 : (doF (newF 1000) (.submit d)).1 = (⟨d, false, 0, [], 0, 0, 1000⟩ : Se) := by
    show (submitF (newF 1000) d).2 = _
    unfold submitF newF
    rw [if_neg (by simp), if_neg (by omega), if_neg (by simp only [List.length_nil]; omega)]
    rfl
  have k1 : SOk (⟨d, false, 0, [], 0, 0, 1000⟩ : Se) := by rw [← e1]; exact hH.step _
  -- all is sent
  obtain ⟨n1, n2, n3, n4, n5, n6, n7⟩ := new_run 10 _ k1 rfl rfl rfl (by simp only; omega) (by simp only; omega)
  have k2 := SOk.ends (l := polls 10) k1
  generalize hs2 : ends (⟨d, false, 0, [], 0, 0, 1000⟩ : Se) (polls 10) = s2 at *
  simp only at n1 n3 n5 n6 n7
  -- some of it is heard of
  have q := heard_ok k2 k 0 [(f, t)] (by omega) (by simp) (fun r hr => by obtain rfl := List.mem_singleton.1 hr; simp only; omega) (by rw [n4]; simp)
  have k3 := k2.heard k 0 [(f, t)]
  generalize hs3 : (heardF s2 k 0 [(f, t)]).2 = s3 at *
  have q1 := q.data; have q2 := q.closed; have q3 := q.next
  have end3 : s3.end_ = d.length := by unfold Se.end_; rw [q2, n2, q1, n1]; rfl
  have t3 : timeoutF s3 = { s3 with again := s3.done } := by unfold timeoutF; rw [if_neg (by omega)]
  have k4 := k3.timeout
  rw [t3] at k4
  have hml : s3.more.length ≤ 2 := by
    have h1 := added s2.done s2.more (0, k) k2.may.ch
    have h2 := added _ _ (f, t) h1.ch
    have l1 := h1.len
    have l2 := h2.len
    have hz : s2.more.length = 0 := by rw [n4]; rfl
    have : s3.more = (add (add s2.done s2.more (0, k)).1 (add s2.done s2.more (0, k)).2 (f, t)).2 := by
      rw [← hs3]
      unfold heardF
      rw [if_neg (by omega), if_neg (by simp), if_neg (by
        intro ha
        obtain ⟨r, hr, ho⟩ := List.any_eq_true.1 ha
        obtain rfl := List.mem_singleton.1 hr
        unfold odd at ho
        simp only [Bool.or_eq_true, decide_eq_true_eq] at ho
        omega)]
      simp only [adds]
      rw [if_neg (by omega), if_neg (by omega)]
    rw [this]; omega
  -- what is not heard of is sent again
  have hphi : phi ({ s3 with again := s3.done } : Se) ≤ 12 := by
    unfold phi
    have h1 := List.length_filter_le (fun r : R => decide (s3.done < r.1)) s3.more
    have h2 := k4.a0
    simp only at h1 h2 ⊢
    omega
  obtain ⟨r1, r2, r3, r4, r5, r6, r7, r8⟩ := again_run 12 ({ s3 with again := s3.done } : Se) k4 (by rw [← n2, ← q2]) (by simp only [Se.to2]; rw [show ({ s3 with again := s3.done } : Se).end_ = s3.end_ from rfl, end3]; omega) hphi
  have k5 := SOk.ends (l := polls 12) k4
  simp only at r1 r2 r3 r5 r6 r7 r8
  generalize hs5 : ends ({ s3 with again := s3.done } : Se) (polls 12) = s5 at *
  generalize hR : runs ({ s3 with again := s3.done } : Se) (polls 12) = L5 at *
  have hL5 : L5.length = 12 := by rw [← hR, runs_len, polls_len]
  -- all is heard of
  have hq := heard_ok k5 d.length 0 [] (by omega) (by simp) (fun r hr => (nomatch hr)) (by rw [r6]; simp only [List.length_nil]; omega)
  have k6 := k5.heard d.length 0 []
  generalize hs6 : (heardF s5 d.length 0 []).2 = s6 at *
  have hdone := all_known (s := s6) (n := d.length) hq.may (by have := hq.la; omega) (fun x x0 x1 => (hq.kn x).2 (.inr (.inl ⟨x0, x1⟩)))
  have u1 := hq.data; have u2 := hq.closed; have u3 := hq.next
  have end6 : s6.end_ = d.length := by unfold Se.end_; rw [u2, r4, u1, r3, q1, n1]; rfl
  have t6 : timeoutF s6 = { s6 with again := s6.done } := by unfold timeoutF; rw [if_neg (by omega)]
  have k7 := k6.timeout
  rw [t6] at k7
  have hP : pollF ({ s6 with again := s6.done } : Se) = (({ s6 with again := s6.done } : Se), ⟨0, 0, [], false, false, true, ({ s6 with again := s6.done } : Se).left⟩) := by
    obtain ⟨g1, g2, g3⟩ := k7.at1
    unfold pollF
    simp only at g1 g2 g3
    rw [if_neg (by simp only; omega), if_pos (by simp only [Se.to2]; rw [show ({ s6 with again := s6.done } : Se).end_ = s6.end_ from rfl, end6]; omega)]
  have hleft : ({ s6 with again := s6.done } : Se).left = 0 := by
    unfold Se.left
    simp only
    rw [show ({ s6 with again := s6.done } : Se).end_ = s6.end_ from rfl, end6, hdone.1, hdone.2]
    simp [wide]
  -- all together
  have hall : runs (newF 1000) (heardD d k f t) = ((doF (newF 1000) (.submit d)).2 :: runs (⟨d, false, 0, [], 0, 0, 1000⟩ : Se) (polls 10) ++ [plain (heardF s2 k 0 [(f, t)]).1 s3, plain 0 ({ s3 with again := s3.done } : Se)]) ++ (L5 ++ [plain (heardF s5 d.length 0 []).1 s6, plain 0 ({ s6 with again := s6.done } : Se), ⟨0, 0, [], false, false, true, 0⟩]) := by
    unfold heardD
    rw [List.append_assoc, List.append_assoc, List.append_assoc, runs_app, runs_app, runs_app, runs_app]
    simp only [runs, ends]
    rw [e1, hs2]
    simp only [doF]
    rw [hs3, t3, hs5, hR, hs6, t6, hP, hleft]
    simp
  have hl1 : ((doF (newF 1000) (.submit d)).2 :: runs (⟨d, false, 0, [], 0, 0, 1000⟩ : Se) (polls 10) ++ [plain (heardF s2 k 0 [(f, t)]).1 s3, plain 0 ({ s3 with again := s3.done } : Se)]).length = 13 := by
    simp only [List.length_append, List.length_cons, List.length_nil, runs_len, polls_len]
  generalize ((doF (newF 1000) (.submit d)).2 :: runs (⟨d, false, 0, [], 0, 0, 1000⟩ : Se) (polls 10) ++ [plain (heardF s2 k 0 [(f, t)]).1 s3, plain 0 ({ s3 with again := s3.done } : Se)]) = L1 at *
  have hmid : ((L1 ++ (L5 ++ [plain (heardF s5 d.length 0 []).1 s6, plain 0 ({ s6 with again := s6.done } : Se), ⟨0, 0, [], false, false, true, 0⟩])).drop 13).take 12 = L5 := by
    rw [← hl1, List.drop_left, ← hL5, List.take_left]
  have hlast : (L1 ++ (L5 ++ [plain (heardF s5 d.length 0 []).1 s6, plain 0 ({ s6 with again := s6.done } : Se), ⟨0, 0, [], false, false, true, 0⟩])).getD 27 default = (⟨0, 0, [], false, false, true, 0⟩ : St) := by
    rw [List.getD_eq_getElem?_getD, List.getElem?_append_right (by omega), List.getElem?_append_right (by omega), hl1, hL5]; rfl
  rw [hall]
  refine ⟨by simp only [List.length_append, List.length_cons, List.length_nil]; omega, fun p p0 p1 => ?_, fun x hx => ?_, by rw [hlast], by rw [hlast]⟩
  · rw [hmid]
    obtain ⟨v1, v2⟩ := r1 p p0 (by omega)
    have hkn := q.kn p
    rw [n4, n3] at hkn
    have hkn' : knows s3.done s3.more p ↔ p < k ∨ f ≤ p ∧ p < t := by
      rw [hkn]
      constructor
      · rintro (h | h | h)
        · rcases h with h | h
          · omega
          · exact absurd h (inn_nil _)
        · exact .inl h.2
        · exact .inr ((inn_one _ _).1 h)
      · rintro (h | h)
        · exact .inr (.inl ⟨p0, h⟩)
        · exact .inr (.inr ((inn_one _ _).2 h))
    by_cases c : p < k ∨ f ≤ p ∧ p < t
    · rw [if_pos c]
      exact v2 fun h => h.2 (hkn'.2 c)
    · rw [if_neg c]
      refine v1 ⟨?_, fun h => c (hkn'.1 h)⟩
      exact Classical.byContradiction fun h => c (hkn'.1 (.inl (by omega)))
  · rw [hmid] at hx
    have := r2 x hx
    omega
end send
end Go.Proofs.Ytkinpmbokkfpbaa
