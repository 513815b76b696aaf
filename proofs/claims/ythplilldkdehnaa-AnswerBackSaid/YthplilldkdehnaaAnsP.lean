/-
  PLAIN LAW of package msg: replies as bytes, and back. No program in sight.
-/
import Derived.Test.YthplilldkdehnaaAskP
import Derived.Test.YthplilldkdehnaaName2
namespace Go.Proofs.Ythplilldkdehnaa
set_option linter.unusedVariables false
set_option linter.unusedSimpArgs false
namespace msg
open frame path
def repF : List Pt := [.num 4 1, .num 1 0, .num 4 5, .num 1 4, .num 4 6, .data, .num 1 7]
def textB (s : List UInt8) : List UInt8 := nb 2 s.length ++ s
def namesB (l : List (List UInt8)) : List UInt8 := l.flatMap textB
def txt1 (b : List UInt8) : Option (List UInt8 × List UInt8) :=
  if b.length < 2 then none else if b.length - 2 < num (b.take 2) then none else some ((b.drop 2).take (num (b.take 2)), (b.drop 2).drop (num (b.take 2)))
def txts : Nat → List UInt8 → Option (List (List UInt8) × List UInt8)
  | 0, b => some ([], b)
  | k + 1, b => match txt1 b with
    | none => none
    | some (s, b') => match txts k b' with
      | none => none
      | some (l, b'') => some (s :: l, b'')
def faultF (r : Rq) (names : List (List UInt8)) : Int :=
  if allF { r with count := (min names.length 40 : Nat) } repF 0 ≠ 0 then allF { r with count := (min names.length 40 : Nat) } repF 0
  else if 40 < names.length then 1 else if ∃ s ∈ names, ¬ NameOk s then 4 else 0
def answerF (r : Rq) (names : List (List UInt8)) : List UInt8 × Int :=
  if faultF r names = 0 then (repF.flatMap (bytesF { r with count := (names.length : Nat) }) ++ namesB names, 0) else ([], faultF r names)
def answeredF (b : List UInt8) : (Rq × List (List UInt8)) × Int :=
  match takeF Rq.zero b repF with
  | none => ((Rq.zero, []), 5)
  | some (r, b1) => match txts r.count.toNat b1 with
    | none => ((Rq.zero, []), 5)
    | some (l, b2) => if b2 = [] ∧ faultF r l = 0 then ((r, l), 0) else ((Rq.zero, []), 4)
theorem textB_len (s : List UInt8) : (textB s).length = 2 + s.length := by unfold textB; rw [List.length_append, nb_len]
theorem txt1_put (s rest : List UInt8) (hs : s.length < 65536) : txt1 (textB s ++ rest) = some (s, rest) := by
  have h2 := nb_len 2 s.length
  have t2 : (textB s ++ rest).take 2 = nb 2 s.length := by
    unfold textB
    rw [List.append_assoc]
    conv => lhs; arg 1; rw [← h2]
    rw [List.take_left]
  have d2 : (textB s ++ rest).drop 2 = s ++ rest := by
    unfold textB
    rw [List.append_assoc]
    conv => lhs; arg 1; rw [← h2]
    rw [List.drop_left]
  have hn : num (nb 2 s.length) = s.length := num_nb 2 _ (by omega)
  unfold txt1
  rw [t2, d2, hn, if_neg (by rw [List.length_append, textB_len]; omega), if_neg (by rw [List.length_append, textB_len]; omega), List.take_left, List.drop_left]
theorem txt1_some {b c : List UInt8} {s b' : List UInt8} (h : txt1 b = some (s, b')) : txt1 (b ++ c) = some (s, b' ++ c) := by
  unfold txt1 at h ⊢
  by_cases c1 : b.length < 2
  · rw [if_pos c1] at h; exact nomatch h
  · rw [if_neg c1] at h
    by_cases c2 : b.length - 2 < num (b.take 2)
    · rw [if_pos c2] at h; exact nomatch h
    · rw [if_neg c2, Option.some.injEq, Prod.mk.injEq] at h
      have t2 : (b ++ c).take 2 = b.take 2 := List.take_append_of_le_length (by omega)
      have d2 : (b ++ c).drop 2 = b.drop 2 ++ c := List.drop_append_of_le_length (by omega)
      have hl : num (b.take 2) ≤ (b.drop 2).length := by rw [List.length_drop]; omega
      rw [if_neg (by rw [List.length_append]; omega), t2, if_neg (by rw [List.length_append]; omega), d2, List.take_append_of_le_length hl, List.drop_append_of_le_length hl, h.1, h.2]
theorem txts_put : ∀ (l : List (List UInt8)) (rest : List UInt8), (∀ s ∈ l, s.length < 65536) → txts l.length (namesB l ++ rest) = some (l, rest)
  | [], rest, _ => rfl
  | s :: t, rest, h => by
    have e : namesB (s :: t) ++ rest = textB s ++ (namesB t ++ rest) := by unfold namesB; rw [List.flatMap_cons, List.append_assoc]
    rw [e, List.length_cons]
    unfold txts
    rw [txt1_put s _ (h s (by simp))]
    simp only
    rw [txts_put t rest (fun x hx => h x (List.mem_cons_of_mem _ hx))]
theorem txts_some : ∀ (k : Nat) (b c : List UInt8) (l : List (List UInt8)) (b' : List UInt8), txts k b = some (l, b') → txts k (b ++ c) = some (l, b' ++ c)
  | 0, b, c, l, b', h => by
    simp only [txts, Option.some.injEq, Prod.mk.injEq] at h ⊢
    exact ⟨h.1, by rw [h.2]⟩
  | k + 1, b, c, l, b', h => by
    unfold txts at h ⊢
    cases e : txt1 b with
    | none => rw [e] at h; exact nomatch h
    | some q =>
      obtain ⟨s, b1⟩ := q
      rw [e] at h
      rw [txt1_some e]
      simp only at h ⊢
      cases e2 : txts k b1 with
      | none => rw [e2] at h; exact nomatch h
      | some q2 =>
        obtain ⟨l2, b2⟩ := q2
        rw [e2] at h
        rw [txts_some k b1 c l2 b2 e2]
        simp only [Option.some.injEq, Prod.mk.injEq] at h ⊢
        exact ⟨h.1, by rw [h.2]⟩
theorem txts_short (l : List (List UInt8)) (h : ∀ s ∈ l, s.length < 65536) (k : Nat) (hk : k < (namesB l).length) : txts l.length ((namesB l).take k) = none := by
  cases e : txts l.length ((namesB l).take k) with
  | none => rfl
  | some q =>
    exfalso
    have h1 := txts_some _ _ ((namesB l).drop k) q.1 q.2 e
    rw [List.take_append_drop] at h1
    have h2 := txts_put l [] h
    rw [List.append_nil, h1, Option.some.injEq, Prod.mk.injEq] at h2
    have := congrArg List.length h2.2
    rw [List.length_append, List.length_drop, List.length_nil] at this
    omega
theorem rep_copy (r : Rq) (hp : r.path = [] ∧ r.to_ = []) : cpys Rq.zero r repF = r := by
  obtain ⟨kind, mark, path, to_, how, handle, at_, count, data⟩ := r
  obtain ⟨h1, h2⟩ := hp
  simp only at h1 h2
  subst h1 h2
  rfl
structure FaultOk (r : Rq) (names : List (List UInt8)) : Prop where
  le : names.length ≤ 40
  ok : ∀ s ∈ names, NameOk s
  fits : ∀ p ∈ repF, fit { r with count := (names.length : Nat) } p = 0
theorem fault_ok {r : Rq} {names : List (List UInt8)} : faultF r names = 0 ↔ FaultOk r names := by
  constructor
  · intro h
    unfold faultF at h
    by_cases c1 : allF { r with count := (min names.length 40 : Nat) } repF 0 ≠ 0
    · rw [if_pos c1] at h; exact absurd h c1
    · rw [if_neg c1] at h
      by_cases c2 : 40 < names.length
      · rw [if_pos c2] at h; exact absurd h (by decide)
      · rw [if_neg c2] at h
        by_cases c3 : ∃ s ∈ names, ¬ NameOk s
        · rw [if_pos c3] at h; exact absurd h (by decide)
        · have hm : min names.length 40 = names.length := by omega
          rw [hm] at c1
          exact ⟨by omega, fun s hs => Decidable.byContradiction fun hn => c3 ⟨s, hs, hn⟩, ((all_ok _ _ _).1 (Decidable.not_not.1 c1)).2⟩
  · intro ⟨h1, h2, h3⟩
    have hm : min names.length 40 = names.length := by omega
    have e : allF { r with count := (names.length : Nat) } repF 0 = 0 := (all_ok _ _ _).2 ⟨rfl, h3⟩
    unfold faultF
    rw [hm, if_neg (by rw [e]; simp), if_neg (by omega), if_neg (fun ⟨s, hs, hn⟩ => hn (h2 s hs))]
theorem answer_back {r : Rq} {names : List (List UInt8)} (h : faultF r names = 0) (hp : r.path = [] ∧ r.to_ = []) (hc : r.count = (names.length : Nat)) :
    answeredF (answerF r names).1 = ((r, names), 0) ∧ ∀ k, k < (answerF r names).1.length → (answeredF ((answerF r names).1.take k)).2 = 5 := by
  obtain ⟨h1, h2, h3⟩ := fault_ok.1 h
  have er : ({ r with count := (names.length : Nat) } : Rq) = r := by rw [← hc]
  rw [er] at h3
  have hx : (answerF r names).1 = repF.flatMap (bytesF r) ++ namesB names := by unfold answerF; rw [if_pos h, er]
  rw [hx]
  have hlen : ∀ s ∈ names, s.length < 65536 := fun s hs => by have := (h2 s hs).2.1; omega
  have hcn : r.count.toNat = names.length := by rw [hc]; rfl
  refine ⟨?_, fun k hk => ?_⟩
  · unfold answeredF
    rw [take_put r repF Rq.zero h3, rep_copy r hp]
    simp only
    rw [hcn]
    have := txts_put names [] hlen
    rw [List.append_nil] at this
    rw [this]
    simp only
    rw [if_pos ⟨trivial, h⟩]
  · by_cases hk2 : k < (repF.flatMap (bytesF r)).length
    · rw [List.take_append_of_le_length (by omega)]
      unfold answeredF
      rw [take_short r repF Rq.zero h3 k hk2]
    · have e : (repF.flatMap (bytesF r) ++ namesB names).take k = repF.flatMap (bytesF r) ++ (namesB names).take (k - (repF.flatMap (bytesF r)).length) := by
        rw [List.take_append, List.take_of_length_le (by omega)]
      rw [e]
      unfold answeredF
      rw [take_put r repF Rq.zero h3, rep_copy r hp]
      simp only
      rw [hcn, txts_short names hlen _ (by rw [List.length_append] at hk; omega)]
end msg
end Go.Proofs.Ythplilldkdehnaa
