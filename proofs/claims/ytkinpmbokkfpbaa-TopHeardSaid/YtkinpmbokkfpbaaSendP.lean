/-
  WHO SENDS, IN PLAIN LEAN: what a deed does ('doF'), what is kept ('SOk'). No program in sight.
-/
import Derived.Test.YtkinpmbokkfpbaaSacksP
namespace Go.Proofs.Ytkinpmbokkfpbaa
set_option linter.unusedVariables false
set_option linter.unusedSimpArgs false

namespace send
open hole
structure Se where
  data : List UInt8
  closed : Bool
  done : Int
  more : List R
  next : Int
  again : Int
  edge : Int
inductive De where
  | submit (b : List UInt8)
  | heard (ack win : Int) (l : List R)
  | poll
  | timeout
  | close
structure St where
  code : Int
  from_ : Int
  data : List UInt8
  fin : Bool
  again : Bool
  idle : Bool
  left : Int
instance : Inhabited St := ⟨⟨0, 0, [], false, false, false, 0⟩⟩
instance : Inhabited De := ⟨.poll⟩
def Se.end_ (s : Se) : Int := if s.closed then s.data.length + 1 else s.data.length
def wide : List R → Int
  | [] => 0
  | r :: t => (r.2 - r.1) + wide t
def Se.left (s : Se) : Int := s.end_ - s.done - wide s.more
theorem wide_app : ∀ l m : List R, wide (l ++ m) = wide l + wide m
  | [], m => by simp [wide]
  | r :: t, m => by simp only [List.cons_append, wide, wide_app t m]; omega
theorem wide_bd : ∀ (l : List R) (d : Int), chain d l → 0 ≤ wide l ∧ wide l ≤ last d l - d
  | [], d, _ => by simp [wide, last]
  | r :: t, d, h => by
    have ih := wide_bd t r.2 h.2.2
    have h1 := h.1
    have h2 := h.2.1
    simp only [wide, last]
    omega
/-- one range looked at, from a place on -/
def hop (f : Int) (r : R) : Int := if r.1 ≤ f ∧ f < r.2 then r.2 else f
def hops (f : Int) (l : List R) : Int := l.foldl hop f
theorem hops_snoc (f : Int) (l : List R) (r : R) : hops f (l ++ [r]) = hop (hops f l) r := by unfold hops; rw [List.foldl_append]; rfl
def first (done : Int) (more : List R) (from_ to : Int) : Int := min (hops (max from_ done) more) to
/-- where the next range begins -/
def upto (at_ : Int) (more : List R) (to : Int) : Int := more.foldr (fun r t => if at_ < r.1 then r.1 else t) to
def odd (next : Int) (r : R) : Bool := decide (r.1 < 0) || decide (r.2 ≤ r.1) || decide (next < r.2)
def adds : Int × List R → List R → Option (Int × List R)
  | st, [] => some st
  | st, r :: t => if 16 < (add st.1 st.2 r).2.length then none else adds (add st.1 st.2 r) t
def submitF (s : Se) (b : List UInt8) : Int × Se :=
  if s.closed = true then (10, s) else if 4096 < b.length then (1, s) else if 1048576 ≤ s.data.length + b.length then (9, s) else (0, { s with data := s.data ++ b })
def heardF (s : Se) (ack win : Int) (l : List R) : Int × Se :=
  if ack < 0 ∨ s.next < ack ∨ win < 0 ∨ 65535 < win then (2, s)
  else if 3 < l.length then (1, s)
  else if l.any (odd s.next) = true then (2, s)
  else match adds (s.done, s.more) ((0, ack) :: l) with
    | none => (9, s)
    | some st => (0, { s with done := st.1, more := st.2, edge := max s.edge (ack + win) })
def timeoutF (s : Se) : Se :=
  if first s.done s.more s.done s.next = s.next ∧ s.next < s.end_ ∧ s.edge ≤ s.next then { s with again := s.done, edge := s.next + 1 } else { s with again := s.done }
/-- a piece: where it ends, and whether the end of all comes with it -/
def stop (s : Se) (from_ to : Int) : Int := min (min to s.data.length) (from_ + 64)
def pieceF (s : Se) (from_ to : Int) : List UInt8 := (s.data.drop from_.toNat).take (stop s from_ to - from_).toNat
def finF (s : Se) (from_ to : Int) : Bool := decide (stop s from_ to = s.data.length ∧ stop s from_ to < to)
def aftF (s : Se) (from_ to : Int) : Int := if finF s from_ to = true then stop s from_ to + 1 else stop s from_ to
def Se.at_ (s : Se) : Int := first s.done s.more s.again s.next
def Se.to1 (s : Se) : Int := upto s.at_ s.more s.next
def Se.to2 (s : Se) : Int := min s.end_ s.edge
def pollF (s : Se) : Se × St :=
  if s.at_ < s.next then ({ s with again := aftF s s.at_ s.to1 }, ⟨0, s.at_, pieceF s s.at_ s.to1, finF s s.at_ s.to1, true, false, s.left⟩)
  else if s.to2 ≤ s.next then (s, ⟨0, 0, [], false, false, true, s.left⟩)
  else ({ s with next := aftF s s.next s.to2, again := aftF s s.next s.to2 }, ⟨0, s.next, pieceF s s.next s.to2, finF s s.next s.to2, false, false, s.left⟩)
def plain (code : Int) (s : Se) : St := ⟨code, 0, [], false, false, false, s.left⟩
def doF (s : Se) : De → Se × St
  | .submit b => ((submitF s b).2, plain (submitF s b).1 (submitF s b).2)
  | .heard a w l => ((heardF s a w l).2, plain (heardF s a w l).1 (heardF s a w l).2)
  | .poll => pollF s
  | .timeout => (timeoutF s, plain 0 (timeoutF s))
  | .close => ({ s with closed := true }, plain (if s.closed = true then 10 else 0) { s with closed := true })
structure SOk (s : Se) : Prop where
  may : May s.done s.more
  la : last s.done s.more ≤ s.next
  ne : s.next ≤ s.end_
  a0 : 0 ≤ s.again
  a1 : s.again ≤ s.next
  e0 : 0 ≤ s.edge
  e1 : s.edge ≤ 2000000
  len : s.data.length < 1048576
theorem SOk.end1 {s : Se} (k : SOk s) : s.end_ ≤ 1048576 := by
  have := k.len
  unfold Se.end_
  split <;> omega
theorem SOk.dle {s : Se} (k : SOk s) : s.done ≤ last s.done s.more := chain_le _ _ k.may.ch
theorem SOk.left {s : Se} (k : SOk s) : 0 ≤ s.left ∧ s.left ≤ s.end_ := by
  have h := wide_bd _ _ k.may.ch
  have h1 := k.dle
  have h2 := k.la
  have h3 := k.ne
  have h4 := k.may.d0
  unfold Se.left
  omega
theorem hop_bd {f b : Int} {r : R} (h : r.2 ≤ b) (hf : f ≤ b) : f ≤ hop f r ∧ hop f r ≤ b := by
  unfold hop; split <;> omega
theorem hops_bd {b : Int} : ∀ (l : List R) (f : Int), (∀ r ∈ l, r.2 ≤ b) → f ≤ b → f ≤ hops f l ∧ hops f l ≤ b
  | [], f, _, h => ⟨Int.le_refl _, h⟩
  | r :: t, f, hl, h => by
    obtain ⟨h1, h2⟩ := hop_bd (hl r (by simp)) h
    obtain ⟨h3, h4⟩ := hops_bd t (hop f r) (fun q hq => hl q (List.mem_cons_of_mem _ hq)) h2
    exact ⟨Int.le_trans h1 h3, h4⟩
/-- the first place not known: all from the beginning up to it is known -/
theorem hops_spec : ∀ (l : List R) (d f : Int), chain d l → ¬ inn l (hops f l) ∧ ∀ x, f ≤ x → x < hops f l → inn l x
  | [], d, f, _ => ⟨inn_nil _, fun x h1 h2 => absurd h2 (by show ¬ x < f; omega)⟩
  | r :: t, d, f, h => by
    obtain ⟨i1, i2⟩ := hops_spec t r.2 (hop f r) h.2.2
    have hb := (hops_bd (b := max (hop f r) (last r.2 t)) t (hop f r) (fun q hq => by have := (chain_mem t r.2 h.2.2 q hq).2.2; omega) (by omega)).1
    have h2 := h.2.1
    constructor
    · intro hi
      rcases (inn_cons r t _).1 hi with ⟨k1, k2⟩ | k
      · have k1' : r.1 ≤ hops (hop f r) t := k1
        have k2' : hops (hop f r) t < r.2 := k2
        unfold hop at hb k1' k2'
        split at hb
        · rename_i c
          rw [if_pos c] at k2'
          omega
        · rename_i c
          rw [if_neg c] at k1' k2'
          by_cases e : hops f t = f
          · omega
          · have hlt : f < hops f t := by omega
            have i2' := i2
            unfold hop at i2'
            rw [if_neg c] at i2'
            have := (inn_lt h.2.2 (i2' f (Int.le_refl _) hlt)).1
            omega
      · exact i1 k
    · intro x h1 h3
      by_cases c : r.1 ≤ f ∧ f < r.2
      · by_cases e : x < r.2
        · exact (inn_cons r t x).2 (.inl ⟨by omega, e⟩)
        · refine (inn_cons r t x).2 (.inr (i2 x ?_ h3))
          unfold hop; rw [if_pos c]; omega
      · refine (inn_cons r t x).2 (.inr (i2 x ?_ h3))
        unfold hop; rw [if_neg c]; exact h1
theorem upto_spec : ∀ (l : List R) (d a to : Int), chain d l → last d l ≤ to → a < to → a < upto a l to ∧ upto a l to ≤ to ∧ ((upto a l to = to ∧ ∀ r ∈ l, r.1 ≤ a) ∨ inn l (upto a l to)) ∧ (¬ inn l a → ∀ x, a ≤ x → x < upto a l to → ¬ inn l x)
  | [], d, a, to, _, _, h => ⟨h, Int.le_refl _, .inl ⟨rfl, by simp⟩, fun _ x _ _ => inn_nil x⟩
  | r :: t, d, a, to, hc, hl, h => by
    have hm := chain_mem t r.2 hc.2.2
    have hle := chain_le t r.2 hc.2.2
    have h1 := hc.1
    have h2 := hc.2.1
    have hl' : last r.2 t ≤ to := hl
    obtain ⟨i1, i2, i3, i4⟩ := upto_spec t r.2 a to hc.2.2 hl h
    have e : upto a (r :: t) to = if a < r.1 then r.1 else upto a t to := rfl
    rw [e]
    by_cases c : a < r.1
    · rw [if_pos c]
      refine ⟨c, by omega, .inr ((inn_cons r t _).2 (.inl ⟨Int.le_refl _, h2⟩)), fun hn x hx1 hx2 hi => ?_⟩
      rcases (inn_cons r t x).1 hi with k | k
      · omega
      · have := (inn_lt hc.2.2 k).1; omega
    · rw [if_neg c]
      refine ⟨i1, i2, ?_, fun hn x hx1 hx2 hi => ?_⟩
      · rcases i3 with ⟨k1, k2⟩ | k
        · exact .inl ⟨k1, fun q hq => (List.mem_cons.1 hq).elim (fun e => by subst e; omega) (k2 q)⟩
        · exact .inr ((inn_cons r t _).2 (.inr k))
      · rcases (inn_cons r t x).1 hi with k | k
        · exact hn ((inn_cons r t a).2 (.inl ⟨by omega, by omega⟩))
        · exact i4 (fun hk => hn ((inn_cons r t a).2 (.inr hk))) x hx1 hx2 k
theorem SOk.at1 {s : Se} (k : SOk s) : s.done ≤ s.at_ ∧ s.again ≤ s.at_ ∧ s.at_ ≤ s.next := by
  have h1 := k.dle
  have h2 := k.la
  have h3 := k.a1
  have hb := hops_bd (b := max s.again (last s.done s.more)) s.more (max s.again s.done) (fun r hr => by have := (chain_mem _ _ k.may.ch r hr).2.2; omega) (by omega)
  unfold Se.at_ first
  omega
theorem SOk.toA {s : Se} (k : SOk s) (h : s.at_ < s.next) : s.at_ < s.to1 ∧ s.to1 ≤ s.next := by
  obtain ⟨h1, h2, _⟩ := upto_spec s.more s.done s.at_ s.next k.may.ch k.la h
  exact ⟨h1, h2⟩
theorem SOk.len_end {s : Se} : s.end_ ≤ s.data.length + 1 ∧ (s.data.length : Int) ≤ s.end_ := by
  unfold Se.end_; split <;> omega
/-- a piece that may be sent -/
theorem aft_bd {s : Se} {a to : Int} (h0 : 0 ≤ a) (h1 : a < to) (h2 : to ≤ s.end_) : a < aftF s a to ∧ aftF s a to ≤ to ∧ a ≤ stop s a to ∧ stop s a to ≤ s.data.length ∧ stop s a to ≤ a + 64 := by
  have h := SOk.len_end (s := s)
  unfold aftF finF stop
  by_cases c : min (min to (s.data.length : Int)) (a + 64) = s.data.length ∧ min (min to (s.data.length : Int)) (a + 64) < to
  · rw [if_pos (decide_eq_true c)]; omega
  · rw [if_neg (by simpa using c)]; omega
theorem adds_ok (b : Int) : ∀ (l : List R) (st st' : Int × List R), adds st l = some st' → (∀ r ∈ l, 0 ≤ r.1 ∧ r.1 ≤ r.2 ∧ r.2 ≤ b) → b ≤ 1048576 → May st.1 st.2 → last st.1 st.2 ≤ b →
    May st'.1 st'.2 ∧ last st'.1 st'.2 ≤ b ∧ st.1 ≤ st'.1 ∧ ∀ x, knows st'.1 st'.2 x ↔ knows st.1 st.2 x ∨ inn l x
  | [], st, st', h, _, _, hm, hl => by
    obtain rfl := Option.some.inj h
    exact ⟨hm, hl, Int.le_refl _, fun x => ⟨.inl, fun h => h.elim id fun h => absurd h (inn_nil _)⟩⟩
  | r :: t, st, st', h, hr, hb, hm, hl => by
    have ha := added st.1 st.2 r hm.ch
    obtain ⟨r0, r1, r2⟩ := hr r (by simp)
    simp only [adds] at h
    split at h
    · exact nomatch h
    · rename_i c
      have hi := ha.hi
      have hge := ha.ge
      have hd0 := hm.d0
      have hh := hm.hi
      obtain ⟨i1, i2, i3, i4⟩ := adds_ok b t _ _ h (fun q hq => hr q (List.mem_cons_of_mem _ hq)) hb ⟨by omega, ha.ch, by omega, by omega⟩ (by omega)
      refine ⟨i1, i2, by omega, fun x => ?_⟩
      rw [i4, ha.kn, inn_cons, or_assoc]
theorem odd_no {n : Int} {l : List R} (h : ¬ l.any (odd n) = true) : ∀ r ∈ l, 0 ≤ r.1 ∧ r.1 < r.2 ∧ r.2 ≤ n := by
  intro r hr
  have h' : odd n r = false := by
    cases e : odd n r with
    | false => rfl
    | true => exact absurd (List.any_eq_true.2 ⟨r, hr, e⟩) h
  unfold odd at h'
  simp only [Bool.or_eq_false_iff, decide_eq_false_iff_not] at h'
  omega
theorem SOk.submit {s : Se} (k : SOk s) (b : List UInt8) : SOk (submitF s b).2 := by
  unfold submitF
  have hne := k.ne
  split
  · exact k
  · rename_i hc
    split
    · exact k
    · split
      · exact k
      · rename_i h1 h2
        refine ⟨k.may, k.la, ?_, k.a0, k.a1, k.e0, k.e1, by simp only [List.length_append]; omega⟩
        unfold Se.end_ at hne ⊢
        rw [if_neg hc] at hne ⊢
        simp only [List.length_append]
        omega
structure Heard (s : Se) (ack win : Int) (l : List R) (s' : Se) : Prop where
  data : s'.data = s.data
  closed : s'.closed = s.closed
  next : s'.next = s.next
  again : s'.again = s.again
  edge : s'.edge = max s.edge (ack + win)
  ak : 0 ≤ ack ∧ ack ≤ s.next ∧ 0 ≤ win ∧ win ≤ 65535
  len : l.length ≤ 3
  rs : ∀ r ∈ l, 0 ≤ r.1 ∧ r.1 < r.2 ∧ r.2 ≤ s.next
  may : May s'.done s'.more
  la : last s'.done s'.more ≤ s.next
  ge : s.done ≤ s'.done
  kn : ∀ x, knows s'.done s'.more x ↔ knows s.done s.more x ∨ (0 ≤ x ∧ x < ack) ∨ inn l x
theorem heard_spec {s : Se} (k : SOk s) (ack win : Int) (l : List R) : (heardF s ack win l).2 = s ∧ ¬ (heardF s ack win l).1 = 0 ∨ (heardF s ack win l).1 = 0 ∧ Heard s ack win l (heardF s ack win l).2 := by
  have he := k.end1
  have hn := k.ne
  unfold heardF
  split
  · exact .inl ⟨rfl, by simp⟩
  · rename_i h1
    split
    · exact .inl ⟨rfl, by simp⟩
    · rename_i h2
      split
      · exact .inl ⟨rfl, by simp⟩
      · rename_i h3
        have hr := odd_no h3
        cases e : adds (s.done, s.more) ((0, ack) :: l) with
        | none => exact .inl ⟨rfl, by simp⟩
        | some st =>
          obtain ⟨i1, i2, i3, i4⟩ := adds_ok s.next ((0, ack) :: l) _ _ e (fun r hr' => by
            rcases List.mem_cons.1 hr' with rfl | hr'
            · simp only; omega
            · have := hr r hr'; omega) (by omega) k.may k.la
          exact .inr ⟨rfl, ⟨rfl, rfl, rfl, rfl, rfl, by omega, by omega, hr, i1, i2, i3, fun x => by
            rw [i4 x, inn_cons]⟩⟩
theorem SOk.heard {s : Se} (k : SOk s) (ack win : Int) (l : List R) : SOk (heardF s ack win l).2 := by
  have he := k.end1
  have hn := k.ne
  rcases heard_spec k ack win l with ⟨h, _⟩ | ⟨_, h⟩
  · rw [h]; exact k
  · have h1 := h.ak
    have h2 := k.e0
    have h3 := k.e1
    refine ⟨h.may, by rw [h.next]; exact h.la, ?_, by rw [h.again]; exact k.a0, by rw [h.again, h.next]; exact k.a1, by rw [h.edge]; omega, by rw [h.edge]; omega, by rw [h.data]; exact k.len⟩
    unfold Se.end_ at hn ⊢
    rw [h.next, h.data, h.closed]
    exact hn
theorem SOk.timeout {s : Se} (k : SOk s) : SOk (timeoutF s) := by
  have he := k.end1
  have hn := k.ne
  have h0 := k.may.d0
  have h1 := k.dle
  have h2 := k.la
  unfold timeoutF
  split
  · exact ⟨k.may, k.la, k.ne, h0, by simp only; omega, by simp only; omega, by simp only; omega, k.len⟩
  · exact ⟨k.may, k.la, k.ne, h0, by simp only; omega, k.e0, k.e1, k.len⟩
theorem SOk.close {s : Se} (k : SOk s) : SOk { s with closed := true } := by
  have hn := k.ne
  refine ⟨k.may, k.la, ?_, k.a0, k.a1, k.e0, k.e1, k.len⟩
  unfold Se.end_ at hn ⊢
  simp only [if_pos]
  split at hn <;> omega
theorem SOk.poll {s : Se} (k : SOk s) : SOk (pollF s).1 := by
  have hn := k.ne
  have h0 := k.may.d0
  have h1 := k.dle
  have h2 := k.la
  obtain ⟨g1, g2, g3⟩ := k.at1
  have ha := k.a0
  unfold pollF
  split
  · rename_i c
    obtain ⟨t1, t2⟩ := k.toA c
    obtain ⟨b1, b2, _⟩ := aft_bd (s := s) (a := s.at_) (to := s.to1) (by omega) t1 (by omega)
    exact ⟨k.may, k.la, k.ne, by simp only; omega, by simp only; omega, k.e0, k.e1, k.len⟩
  · split
    · exact k
    · rename_i c1 c2
      have ht : s.to2 ≤ s.end_ := by unfold Se.to2; omega
      obtain ⟨b1, b2, _⟩ := aft_bd (s := s) (a := s.next) (to := s.to2) (by omega) (by omega) ht
      refine ⟨k.may, by simp only; omega, ?_, by simp only; omega, by simp only; omega, k.e0, k.e1, k.len⟩
      show aftF s s.next s.to2 ≤ s.end_
      omega
theorem SOk.step {s : Se} (k : SOk s) (d : De) : SOk (doF s d).1 := by
  cases d with
  | submit b => exact k.submit b
  | heard a w l => exact k.heard a w l
  | poll => exact k.poll
  | timeout => exact k.timeout
  | close => exact k.close
def newF (window : Int) : Se := ⟨[], false, 0, [], 0, 0, window⟩
theorem SOk.new {w : Int} (h : 0 ≤ w ∧ w ≤ 65535) : SOk (newF w) :=
  ⟨⟨by simp [newF], trivial, by simp [newF, last], by simp [newF]⟩, by simp [newF, last], by simp [newF, Se.end_], by simp [newF], by simp [newF], h.1, by simp only [newF]; omega, by simp [newF]⟩
def runs : Se → List De → List St
  | _, [] => []
  | h, a :: t => (doF h a).2 :: runs (doF h a).1 t
def ends : Se → List De → Se
  | h, [] => h
  | h, a :: t => ends (doF h a).1 t
theorem runs_len : ∀ (l : List De) (h : Se), (runs h l).length = l.length
  | [], _ => rfl
  | a :: t, h => by simp [runs, runs_len t]
theorem runs_app : ∀ (l m : List De) (h : Se), runs h (l ++ m) = runs h l ++ runs (ends h l) m
  | [], m, h => rfl
  | a :: t, m, h => by simp only [List.cons_append, runs, ends, runs_app t m]
theorem ends_app : ∀ (l m : List De) (h : Se), ends h (l ++ m) = ends (ends h l) m
  | [], m, h => rfl
  | a :: t, m, h => by simp only [List.cons_append, ends, ends_app t m]
theorem SOk.ends : ∀ {l : List De} {h : Se}, SOk h → SOk (ends h l)
  | [], _, k => k
  | a :: t, h, k => SOk.ends (l := t) (k.step a)
end send
end Go.Proofs.Ytkinpmbokkfpbaa
