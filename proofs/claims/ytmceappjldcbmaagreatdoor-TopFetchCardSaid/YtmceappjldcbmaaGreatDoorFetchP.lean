/-
  WHO FETCHES, IN PLAIN LEAN: what is asked for ('onF'), what bytes that came do ('gotF'). No program in sight.
-/
import Derived.Test.YtmceappjldcbmaaGreatDoorKitN2
namespace Go.Proofs.YtmceappjldcbmaaGreatDoor
set_option linter.unusedVariables false
set_option linter.unusedSimpArgs false

namespace fetch
abbrev Wa := Int × Int
structure Fe where
  out : List Wa
  front : Int
  end_ : Int
  data : List UInt8
structure Got where
  at_ : Int
  count : Int
  data : List UInt8
structure Ne where
  code : Int
  wants : List Wa
  done : Bool
  data : List UInt8
instance : Inhabited Ne := ⟨⟨0, [], false, []⟩⟩
instance : Inhabited Got := ⟨⟨0, 0, []⟩⟩
def asks (f : Fe) : Bool := decide (f.out.length < 6) && (decide (f.front ≤ 2048) && (decide (f.end_ < 0) || decide (f.front < f.end_)))
def ask1 (f : Fe) : Fe := { f with out := f.out ++ [(f.front, 100)], front := f.front + 100 }
/-- it asks on: who fetches, and what was asked for -/
def more : Nat → Fe → List Wa → Fe × List Wa
  | 0, f, l => (f, l)
  | k + 1, f, l => if asks f = true then more k (ask1 f) (l ++ [(f.front, 100)]) else (f, l)
def opn (f : Fe) (w : Wa) : Bool := decide (w.1 < f.end_)
def fin (f : Fe) : Bool := decide (0 ≤ f.end_) && !f.out.any (opn f)
def onF (f : Fe) (l : List Wa) : Fe × Ne :=
  let m := more 6 f l
  (m.1, ⟨0, m.2, fin m.1, if fin m.1 = true then m.1.data.take (min m.1.end_ (m.1.data.length : Int)).toNat else []⟩)
/-- where a want stands -/
def idx (l : List Wa) (w : Wa) : Nat := l.findIdx (fun x => decide (w = x))
/-- with zeros up to m -/
def ext (d : List UInt8) (m : Nat) : List UInt8 := d ++ List.replicate (m - d.length) 0
def put (d : List UInt8) (a : Nat) (b : List UInt8) : List UInt8 := (ext d (a + b.length)).take a ++ b ++ (ext d (a + b.length)).drop (a + b.length)
/-- what bytes that were asked for do, ahead of asking on -/
def midF (f : Fe) (g : Got) : Fe × List Wa :=
  if g.data.length = 0 ∧ (f.end_ < 0 ∨ g.at_ < f.end_) then (⟨f.out.eraseIdx (idx f.out (g.at_, g.count)), f.front, g.at_, put f.data g.at_.toNat g.data⟩, [])
  else if 0 < g.data.length ∧ (g.data.length : Int) < g.count then (⟨f.out.eraseIdx (idx f.out (g.at_, g.count)) ++ [(g.at_ + g.data.length, g.count - g.data.length)], f.front, f.end_, put f.data g.at_.toNat g.data⟩, [(g.at_ + g.data.length, g.count - g.data.length)])
  else (⟨f.out.eraseIdx (idx f.out (g.at_, g.count)), f.front, f.end_, put f.data g.at_.toNat g.data⟩, [])
def gotF (f : Fe) (g : Got) : Fe × Ne :=
  if f.out.length ≤ idx f.out (g.at_, g.count) then (f, ⟨7, [], false, []⟩)
  else if g.count < g.data.length then (f, ⟨1, [], false, []⟩)
  else onF (midF f g).1 (midF f g).2
/-- what is kept: wants are of places that are some, within what was asked for -/
structure FOk (f : Fe) : Prop where
  len : f.out.length ≤ 6
  w : ∀ x ∈ f.out, 0 ≤ x.1 ∧ 1 ≤ x.2 ∧ x.1 + x.2 ≤ 2200
  f0 : 0 ≤ f.front ∧ f.front ≤ 2148
  e0 : -1 ≤ f.end_ ∧ f.end_ ≤ 2200
  d0 : f.data.length ≤ 2200
theorem asks_iff (f : Fe) : asks f = true ↔ f.out.length < 6 ∧ f.front ≤ 2048 ∧ (f.end_ < 0 ∨ f.front < f.end_) := by
  unfold asks
  simp only [Bool.and_eq_true, Bool.or_eq_true, decide_eq_true_eq]
theorem FOk.ask {f : Fe} (k : FOk f) (h : asks f = true) : FOk (ask1 f) := by
  obtain ⟨h1, h2, h3⟩ := (asks_iff f).1 h
  have hf := k.f0
  refine ⟨by simp only [ask1, List.length_append, List.length_singleton]; omega, fun x hx => ?_, by simp only [ask1]; omega, k.e0, k.d0⟩
  rcases List.mem_append.1 hx with hx | hx
  · exact k.w x hx
  · obtain rfl := List.mem_singleton.1 hx
    simp only; omega
theorem more_len : ∀ (k : Nat) (f : Fe) (l : List Wa), f.out.length + k ≥ 6 → asks (more k f l).1 = false
  | 0, f, l, h => by
    show asks f = false
    cases e : asks f with
    | false => rfl
    | true => have := (asks_iff f).1 e; omega
  | k + 1, f, l, h => by
    unfold more
    by_cases c : asks f = true
    · rw [if_pos c]
      exact more_len k _ _ (by simp only [ask1, List.length_append, List.length_singleton]; omega)
    · rw [if_neg c]
      cases e : asks f with
      | false => rfl
      | true => exact absurd e c
/-- one more round does nothing where nothing is asked -/
theorem more_fix {f : Fe} {l : List Wa} (h : asks f = false) : ∀ k, more k f l = (f, l)
  | 0 => rfl
  | k + 1 => by unfold more; rw [if_neg (by rw [h]; decide)]
/-- enough rounds are as good as more -/
theorem more_enough : ∀ (k j : Nat) (f : Fe) (l : List Wa), 6 ≤ f.out.length + k → k ≤ j → more k f l = more j f l
  | 0, j, f, l, h, _ => by
    have : asks f = false := by
      cases e : asks f with
      | false => rfl
      | true => have := (asks_iff f).1 e; omega
    exact (more_fix this j).symm
  | k + 1, 0, f, l, _, h => by omega
  | k + 1, j + 1, f, l, h, hj => by
    unfold more
    split
    · exact more_enough k j _ _ (by simp only [ask1, List.length_append, List.length_singleton]; omega) (by omega)
    · rfl
theorem more_step {f : Fe} {l : List Wa} (h : asks f = true) : more 6 f l = more 6 (ask1 f) (l ++ [(f.front, 100)]) := by
  conv => lhs; unfold more
  rw [if_pos h]
  exact more_enough 5 6 _ _ (by simp only [ask1, List.length_append, List.length_singleton]; omega) (by omega)
theorem FOk.more : ∀ (k : Nat) (f : Fe) (l : List Wa), FOk f → FOk (fetch.more k f l).1
  | 0, _, _, h => h
  | k + 1, f, l, h => by
    unfold fetch.more
    split
    · rename_i c; exact FOk.more k _ _ (h.ask c)
    · exact h
theorem FOk.on {f : Fe} (k : FOk f) (l : List Wa) : FOk (onF f l).1 := FOk.more 6 f l k
theorem ext_len (d : List UInt8) (m : Nat) : (ext d m).length = max d.length m := by
  unfold ext; rw [List.length_append, List.length_replicate]; omega
theorem put_len (d : List UInt8) (a : Nat) (b : List UInt8) : (put d a b).length = max d.length (a + b.length) := by
  unfold put
  simp only [List.length_append, List.length_take, List.length_drop, ext_len]; omega
theorem idx_lt {l : List Wa} {w : Wa} (h : idx l w < l.length) : l.getD (idx l w) default = w := by
  have := List.findIdx_getElem (w := h)
  rw [List.getD_eq_getElem?_getD, List.getElem?_eq_getElem h]
  exact (of_decide_eq_true this).symm
theorem FOk.mid {f : Fe} (k : FOk f) {g : Got} (hi : idx f.out (g.at_, g.count) < f.out.length) (h2 : ¬ g.count < g.data.length) : FOk (midF f g).1 := by
  have hw := idx_lt hi
  have hin : (g.at_, g.count) ∈ f.out := by
    rw [← hw, List.getD_eq_getElem?_getD, List.getElem?_eq_getElem hi]; exact List.getElem_mem _
  have hb := k.w _ hin
  simp only at hb
  have he : ∀ x ∈ f.out.eraseIdx (idx f.out (g.at_, g.count)), 0 ≤ x.1 ∧ 1 ≤ x.2 ∧ x.1 + x.2 ≤ 2200 := fun x hx => k.w x (List.mem_of_mem_eraseIdx hx)
  have hel : (f.out.eraseIdx (idx f.out (g.at_, g.count))).length = f.out.length - 1 := List.length_eraseIdx_of_lt hi
  have kl := k.len
  have ke := k.e0
  have kd := k.d0
  have hd : (put f.data g.at_.toNat g.data).length ≤ 2200 := by rw [put_len]; omega
  unfold midF
  split
  · exact ⟨by simp only; omega, he, k.f0, by simp only; omega, hd⟩
  · split
    · refine ⟨by simp only [List.length_append, List.length_singleton]; omega, fun x hx => ?_, k.f0, k.e0, hd⟩
      rcases List.mem_append.1 hx with hx | hx
      · exact he x hx
      · obtain rfl := List.mem_singleton.1 hx
        simp only; omega
    · exact ⟨by simp only; omega, he, k.f0, k.e0, hd⟩
theorem FOk.got {f : Fe} (k : FOk f) (g : Got) : FOk (gotF f g).1 := by
  unfold gotF
  split
  · exact k
  · rename_i h1
    split
    · exact k
    · rename_i h2
      exact FOk.on (k.mid (by omega) h2) _
def newF : Fe := ⟨[], 0, -1, []⟩
theorem FOk.new : FOk newF := ⟨by simp [newF], fun x hx => (nomatch hx), by simp [newF], by simp [newF], by simp [newF]⟩
def runs : Fe → List Got → List Ne
  | _, [] => []
  | f, g :: t => (gotF f g).2 :: runs (gotF f g).1 t
def ends : Fe → List Got → Fe
  | f, [] => f
  | f, g :: t => ends (gotF f g).1 t
theorem runs_len : ∀ (l : List Got) (h : Fe), (runs h l).length = l.length
  | [], _ => rfl
  | a :: t, h => by simp [runs, runs_len t]
theorem runs_app : ∀ (l m : List Got) (h : Fe), runs h (l ++ m) = runs h l ++ runs (ends h l) m
  | [], m, h => rfl
  | a :: t, m, h => by simp only [List.cons_append, runs, ends, runs_app t m]
theorem ends_app : ∀ (l m : List Got) (h : Fe), ends h (l ++ m) = ends (ends h l) m
  | [], m, h => rfl
  | a :: t, m, h => by simp only [List.cons_append, ends, ends_app t m]
theorem FOk.ends : ∀ {l : List Got} {h : Fe}, FOk h → FOk (ends h l)
  | [], _, k => k
  | a :: t, h, k => FOk.ends (l := t) (k.got a)
def playF (l : List Got) : List Ne := (onF newF []).2 :: runs (onF newF []).1 l
end fetch
end Go.Proofs.YtmceappjldcbmaaGreatDoor
