/-
  WHO SENDS, IN PLAIN LEAN: what a poll tells; what is told at each deed. No program in sight.
-/
import Derived.Test.YtkinpmbokkfpbaaSendP
namespace Go.Proofs.Ytkinpmbokkfpbaa
set_option linter.unusedVariables false
namespace send
open hole
/-- what a poll tells, and what it leaves -/
structure PollT (s : Se) (t : St) (s' : Se) : Prop where
  code : t.code = 0
  data : s'.data = s.data
  closed : s'.closed = s.closed
  done : s'.done = s.done
  more : s'.more = s.more
  edge : s'.edge = s.edge
  idle : t.idle = true → t.from_ = 0 ∧ t.data = [] ∧ t.fin = false ∧ t.again = false ∧ s' = s
  bd : t.idle = false → 0 ≤ t.from_ ∧ t.data.length ≤ 64 ∧ t.from_ + t.data.length ≤ s.data.length ∧ t.data = (s.data.drop t.from_.toNat).take t.data.length ∧ (t.fin = true → s.closed = true ∧ t.from_ + t.data.length = s.data.length) ∧ (t.data = [] → t.fin = true)
  old : t.idle = false → t.again = true → t.from_ + t.data.length + (if t.fin = true then 1 else 0) ≤ s.next ∧ s'.next = s.next
  new : t.idle = false → t.again = false → t.from_ = s.next ∧ t.from_ + t.data.length + (if t.fin = true then 1 else 0) ≤ s.edge ∧ s'.next = t.from_ + t.data.length + (if t.fin = true then 1 else 0)
theorem piece_facts {s : Se} {a to : Int} (h0 : 0 ≤ a) (h1 : a < to) (h2 : to ≤ s.end_) :
    ((pieceF s a to).length ≤ 64 ∧ a + (pieceF s a to).length = stop s a to ∧ a + (pieceF s a to).length ≤ s.data.length ∧ pieceF s a to = (s.data.drop a.toNat).take (pieceF s a to).length ∧ (finF s a to = true → s.closed = true ∧ a + (pieceF s a to).length = s.data.length) ∧ (pieceF s a to = [] → finF s a to = true)) ∧ a + (pieceF s a to).length + (if finF s a to = true then 1 else 0) = aftF s a to := by
  have h := aft_bd h0 h1 h2
  have hl : a + ((pieceF s a to).length : Int) = stop s a to := by
    unfold pieceF
    rw [List.length_take, List.length_drop]
    omega
  refine ⟨⟨by omega, hl, by omega, ?_, fun hf => ?_, fun he => ?_⟩, ?_⟩
  · have : (stop s a to - a).toNat = (pieceF s a to).length := by omega
    conv => lhs; unfold pieceF
    rw [this]
  · have hf' : stop s a to = s.data.length ∧ stop s a to < to := of_decide_eq_true hf
    refine ⟨?_, by omega⟩
    cases hc : s.closed with
    | true => rfl
    | false =>
      unfold Se.end_ at h2
      rw [if_neg (by rw [hc]; decide)] at h2
      omega
  · rw [he] at hl
    have hl' : a = stop s a to := by simpa using hl
    have hk := SOk.len_end (s := s)
    unfold finF
    refine decide_eq_true ?_
    have : stop s a to = min (min to (s.data.length : Int)) (a + 64) := rfl
    omega
  · rw [hl]
    unfold aftF
    split <;> omega
theorem poll_told {s : Se} (k : SOk s) : PollT s (pollF s).2 (pollF s).1 := by
  have hn := k.ne
  have h0 := k.may.d0
  have ha := k.a0
  have h9 := k.a1
  obtain ⟨g1, g2, g3⟩ := k.at1
  unfold pollF
  split
  · rename_i c
    obtain ⟨t1, t2⟩ := k.toA c
    obtain ⟨⟨p1, p2, p3, p4, p5, p6⟩, p7⟩ := piece_facts (s := s) (a := s.at_) (to := s.to1) (by omega) t1 (by omega)
    obtain ⟨_, b2, _⟩ := aft_bd (s := s) (a := s.at_) (to := s.to1) (by omega) t1 (by omega)
    exact ⟨rfl, rfl, rfl, rfl, rfl, rfl, fun h => (nomatch h), fun _ => ⟨by simp only; omega, p1, p3, p4, p5, p6⟩, fun _ _ => ⟨by simp only; omega, rfl⟩, fun _ h => (nomatch h)⟩
  · split
    · exact ⟨rfl, rfl, rfl, rfl, rfl, rfl, fun _ => ⟨rfl, rfl, rfl, rfl, rfl⟩, fun h => (nomatch h), fun h => (nomatch h), fun h => (nomatch h)⟩
    · rename_i c1 c2
      have ht : s.to2 ≤ s.end_ ∧ s.to2 ≤ s.edge := by unfold Se.to2; omega
      obtain ⟨⟨p1, p2, p3, p4, p5, p6⟩, p7⟩ := piece_facts (s := s) (a := s.next) (to := s.to2) (by omega) (by omega) ht.1
      obtain ⟨_, b2, _⟩ := aft_bd (s := s) (a := s.next) (to := s.to2) (by omega) (by omega) ht.1
      exact ⟨rfl, rfl, rfl, rfl, rfl, rfl, fun h => (nomatch h), fun _ => ⟨by simp only; omega, p1, p3, p4, p5, p6⟩, fun _ h => (nomatch h), fun _ _ => ⟨rfl, by simp only; omega, by simp only; omega⟩⟩
theorem runs_at : ∀ (l : List De) (h : Se) (k : Nat), k < l.length → (runs h l).getD k default = (doF (ends h (l.take k)) (l.getD k default)).2 ∧ ends h (l.take (k + 1)) = (doF (ends h (l.take k)) (l.getD k default)).1
  | [], h, k, hk => absurd hk (Nat.not_lt_zero _)
  | a :: t, h, 0, _ => ⟨rfl, rfl⟩
  | a :: t, h, k + 1, hk => by
    have := runs_at t (doF h a).1 k (by simpa using hk)
    simpa [runs, ends] using this
theorem left_bd {s : Se} (k : SOk s) : 0 ≤ s.left ∧ s.left ≤ s.data.length + 1 := by
  have h := k.left
  have := SOk.len_end (s := s)
  omega
/-- the edge behind a time-out is no more than one behind the last place sent -/
theorem timeout_edge (s : Se) (E : Int) (h : s.edge ≤ E) : (timeoutF s).data = s.data ∧ (timeoutF s).closed = s.closed ∧ (timeoutF s).next = s.next ∧ (timeoutF s).edge ≤ (if E ≤ s.next then max E (s.next + 1) else E) := by
  unfold timeoutF
  split
  · refine ⟨rfl, rfl, rfl, ?_⟩
    simp only
    split <;> omega
  · refine ⟨rfl, rfl, rfl, ?_⟩
    simp only
    split <;> omega
end send
end Go.Proofs.Ytkinpmbokkfpbaa
