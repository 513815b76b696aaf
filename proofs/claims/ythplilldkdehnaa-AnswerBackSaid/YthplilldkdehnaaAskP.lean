/-
  PLAIN LAW of package msg: requests as bytes, and back. No program in sight.
-/
import Derived.Test.YthplilldkdehnaaFrameP
namespace Go.Proofs.Ythplilldkdehnaa
set_option linter.unusedVariables false
set_option linter.unusedSimpArgs false
namespace msg
open frame
/-- a number in w bytes, the highest one first -/
def nb : Nat → Nat → List UInt8
  | 0, _ => []
  | w + 1, k => nb w (k / 256) ++ [byteZ (k : Int)]
theorem nb_len : ∀ w k, (nb w k).length = w
  | 0, _ => rfl
  | w + 1, k => by rw [nb, List.length_append, nb_len w]; rfl
theorem num_nb : ∀ w k, k < 256 ^ w → num (nb w k) = k
  | 0, k, h => by simp at h; subst h; rfl
  | w + 1, k, h => by
    rw [nb, num_snoc, num_nb w (k / 256) (by rw [Nat.pow_succ] at h; omega), byteN]; omega
theorem nb_num (l : List UInt8) : nb l.length (num l) = l :=
  num_inj _ _ (nb_len _ _) (num_nb _ _ (num_lt l))
structure Rq where
  kind : Int
  mark : Int
  path : List UInt8
  to_ : List UInt8
  how : Int
  handle : Int
  at_ : Int
  count : Int
  data : List UInt8
def Rq.zero : Rq := ⟨0, 0, [], [], 0, 0, 0, 0, []⟩
instance : Inhabited Rq := ⟨Rq.zero⟩
/-- a part: a number of so many bytes in a cell, a text in a cell, or the data -/
inductive Pt where
  | num (w k : Nat)
  | text (k : Nat)
  | data
def Rq.n (r : Rq) (k : Nat) : Int := if k = 0 then r.kind else if k = 1 then r.mark else if k = 4 then r.how else if k = 5 then r.handle else if k = 6 then r.at_ else r.count
def Rq.t (r : Rq) (k : Nat) : List UInt8 := if k = 2 then r.path else r.to_
def Rq.setN (r : Rq) (k : Nat) (v : Int) : Rq :=
  if k = 0 then { r with kind := v } else if k = 1 then { r with mark := v } else if k = 4 then { r with how := v } else if k = 5 then { r with handle := v } else if k = 6 then { r with at_ := v } else { r with count := v }
def Rq.setT (r : Rq) (k : Nat) (s : List UInt8) : Rq := if k = 2 then { r with path := s } else { r with to_ := s }
def begunF : List Pt := [.num 1 0, .num 4 1]
def partsF (kind : Int) : List Pt :=
  if kind = 1 then [.text 2, .num 1 4] else if kind = 2 then [.num 4 5] else if kind = 3 then [.num 4 5, .num 4 6, .num 2 7] else if kind = 4 then [.num 4 5, .num 4 6, .data]
  else if 5 ≤ kind ∧ kind ≤ 8 then [.text 2] else if kind = 9 ∨ kind = 10 then [.text 2, .text 3] else []
/-- what is refused of a part -/
def fit (r : Rq) : Pt → Int
  | .num w k => if r.n k < 0 ∨ (256 : Int) ^ w ≤ r.n k then 2 else 0
  | .text k => if 200 < (r.t k).length then 1 else 0
  | .data => if 100 < r.data.length then 1 else 0
def allF (r : Rq) : List Pt → Int → Int
  | [], out => out
  | p :: t, out => if fit r p = 2 then 2 else allF r t (if out = 0 then fit r p else out)
def bytesF (r : Rq) : Pt → List UInt8
  | .num w k => nb w (r.n k).toNat
  | .text k => nb 2 (r.t k).length ++ r.t k
  | .data => nb 2 r.data.length ++ r.data
/-- a part taken out of another request -/
def cpy (r0 r : Rq) : Pt → Rq
  | .num _ k => r0.setN k (r.n k)
  | .text k => r0.setT k (r.t k)
  | .data => { r0 with data := r.data }
def getF (r : Rq) (b : List UInt8) : Pt → Option (Rq × List UInt8)
  | .num w k => if b.length < w then none else some (r.setN k (num (b.take w) : Int), b.drop w)
  | .text k => if b.length < 2 then none else if b.length - 2 < num (b.take 2) then none else some (r.setT k ((b.drop 2).take (num (b.take 2))), (b.drop 2).drop (num (b.take 2)))
  | .data => if b.length < 2 then none else if b.length - 2 < num (b.take 2) then none else some ({ r with data := (b.drop 2).take (num (b.take 2)) }, (b.drop 2).drop (num (b.take 2)))
def takeF (r : Rq) : List UInt8 → List Pt → Option (Rq × List UInt8)
  | b, [] => some (r, b)
  | b, p :: t => match getF r b p with
    | none => none
    | some (r', b') => takeF r' b' t
theorem all_ok : ∀ (l : List Pt) (r : Rq) (o : Int), allF r l o = 0 ↔ o = 0 ∧ ∀ p ∈ l, fit r p = 0
  | [], r, o => by simp [allF]
  | p :: t, r, o => by
    unfold allF
    have ih := all_ok t r (if o = 0 then fit r p else o)
    by_cases h2 : fit r p = 2
    · rw [if_pos h2]
      constructor
      · intro h; exact absurd h (by decide)
      · intro h; have := h.2 p (by simp); omega
    · rw [if_neg h2, ih]
      by_cases h : o = 0
      · rw [if_pos h]; simp [h]
      · rw [if_neg h]; simp [h]
/-- what was put is got -/
theorem get_put (r0 r : Rq) (p : Pt) (h : fit r p = 0) (rest : List UInt8) : getF r0 (bytesF r p ++ rest) p = some (cpy r0 r p, rest) := by
  have tx : ∀ s : List UInt8, s.length ≤ 200 → (nb 2 s.length ++ s ++ rest).length - 2 = s.length + rest.length ∧ num ((nb 2 s.length ++ s ++ rest).take 2) = s.length ∧ (nb 2 s.length ++ s ++ rest).drop 2 = s ++ rest := by
    intro s hs
    have h2 := nb_len 2 s.length
    have t2 : (nb 2 s.length ++ s ++ rest).take 2 = nb 2 s.length := by
      rw [List.append_assoc]
      conv => lhs; arg 1; rw [← h2]
      rw [List.take_left]
    have d2 : (nb 2 s.length ++ s ++ rest).drop 2 = s ++ rest := by
      rw [List.append_assoc]
      conv => lhs; arg 1; rw [← h2]
      rw [List.drop_left]
    refine ⟨by simp only [List.length_append, h2]; omega, by rw [t2]; exact num_nb 2 _ (by omega), d2⟩
  cases p with
  | num w k =>
    have hw := nb_len w (r.n k).toNat
    have hn : 0 ≤ r.n k ∧ r.n k < (256 : Int) ^ w := by
      have h' : (if r.n k < 0 ∨ (256 : Int) ^ w ≤ r.n k then (2 : Int) else 0) = 0 := h
      split at h'
      · omega
      · omega
    have hlt : (r.n k).toNat < 256 ^ w := by
      have h2 : (((r.n k).toNat : Nat) : Int) < ((256 ^ w : Nat) : Int) := by
        rw [Int.toNat_of_nonneg hn.1, Int.natCast_pow]; exact hn.2
      exact Int.ofNat_lt.1 h2
    have ht : (nb w (r.n k).toNat ++ rest).take w = nb w (r.n k).toNat := by
      conv => lhs; arg 1; rw [← hw]
      rw [List.take_left]
    have hd : (nb w (r.n k).toNat ++ rest).drop w = rest := by
      conv => lhs; arg 1; rw [← hw]
      rw [List.drop_left]
    show (if (nb w (r.n k).toNat ++ rest).length < w then none else some (r0.setN k (num ((nb w (r.n k).toNat ++ rest).take w) : Int), (nb w (r.n k).toNat ++ rest).drop w)) = _
    rw [if_neg (by rw [List.length_append]; omega), ht, hd, num_nb w _ hlt, Int.toNat_of_nonneg hn.1]; rfl
  | text k =>
    have hl : (r.t k).length ≤ 200 := by
      have h' : (if 200 < (r.t k).length then (1 : Int) else 0) = 0 := h
      split at h'
      · omega
      · omega
    obtain ⟨e1, e2, e3⟩ := tx (r.t k) hl
    show (if (nb 2 (r.t k).length ++ r.t k ++ rest).length < 2 then none else if (nb 2 (r.t k).length ++ r.t k ++ rest).length - 2 < num ((nb 2 (r.t k).length ++ r.t k ++ rest).take 2) then none else some (r0.setT k (((nb 2 (r.t k).length ++ r.t k ++ rest).drop 2).take (num ((nb 2 (r.t k).length ++ r.t k ++ rest).take 2))), ((nb 2 (r.t k).length ++ r.t k ++ rest).drop 2).drop (num ((nb 2 (r.t k).length ++ r.t k ++ rest).take 2)))) = _
    rw [e1, e2, e3, if_neg (by simp only [List.length_append, nb_len]; omega), if_neg (by omega), List.take_left, List.drop_left]; rfl
  | data =>
    have hl : r.data.length ≤ 200 := by
      have h' : (if 100 < r.data.length then (1 : Int) else 0) = 0 := h
      split at h'
      · omega
      · omega
    obtain ⟨e1, e2, e3⟩ := tx r.data hl
    show (if (nb 2 r.data.length ++ r.data ++ rest).length < 2 then none else if (nb 2 r.data.length ++ r.data ++ rest).length - 2 < num ((nb 2 r.data.length ++ r.data ++ rest).take 2) then none else some ({ r0 with data := ((nb 2 r.data.length ++ r.data ++ rest).drop 2).take (num ((nb 2 r.data.length ++ r.data ++ rest).take 2)) }, ((nb 2 r.data.length ++ r.data ++ rest).drop 2).drop (num ((nb 2 r.data.length ++ r.data ++ rest).take 2)))) = _
    rw [e1, e2, e3, if_neg (by simp only [List.length_append, nb_len]; omega), if_neg (by omega), List.take_left, List.drop_left]; rfl
def cpys (r0 r : Rq) (l : List Pt) : Rq := l.foldl (fun x p => cpy x r p) r0
theorem take_put (r : Rq) : ∀ (l : List Pt) (r0 : Rq), (∀ p ∈ l, fit r p = 0) → ∀ rest, takeF r0 (l.flatMap (bytesF r) ++ rest) l = some (cpys r0 r l, rest)
  | [], r0, _, rest => rfl
  | p :: t, r0, h, rest => by
    rw [List.flatMap_cons, List.append_assoc]
    unfold takeF
    rw [get_put r0 r p (h p (by simp))]
    exact take_put r t _ (fun q hq => h q (List.mem_cons_of_mem _ hq)) rest
/-- bytes that end too early -/
theorem take_some : ∀ (l : List Pt) (r0 r1 : Rq) (b b1 : List UInt8), takeF r0 b l = some (r1, b1) → ∀ c, takeF r0 (b ++ c) l = some (r1, b1 ++ c)
  | [], r0, r1, b, b1, h, c => by
    simp only [takeF, Option.some.injEq, Prod.mk.injEq] at h ⊢
    exact ⟨h.1, by rw [h.2]⟩
  | p :: t, r0, r1, b, b1, h, c => by
    unfold takeF at h ⊢
    cases hg : getF r0 b p with
    | none => rw [hg] at h; exact nomatch h
    | some q =>
      obtain ⟨r', b'⟩ := q
      rw [hg] at h
      have hg2 : getF r0 (b ++ c) p = some (r', b' ++ c) := by
        have two : ∀ (f : List UInt8 → Rq), (if b.length < 2 then none else if b.length - 2 < num (b.take 2) then none else some (f ((b.drop 2).take (num (b.take 2))), (b.drop 2).drop (num (b.take 2)))) = some (r', b') →
            (if (b ++ c).length < 2 then none else if (b ++ c).length - 2 < num ((b ++ c).take 2) then none else some (f (((b ++ c).drop 2).take (num ((b ++ c).take 2))), ((b ++ c).drop 2).drop (num ((b ++ c).take 2)))) = some (r', b' ++ c) := by
          intro f hf
          by_cases c1 : b.length < 2
          · rw [if_pos c1] at hf; exact nomatch hf
          · rw [if_neg c1] at hf
            by_cases c2 : b.length - 2 < num (b.take 2)
            · rw [if_pos c2] at hf; exact nomatch hf
            · rw [if_neg c2, Option.some.injEq, Prod.mk.injEq] at hf
              have t2 : (b ++ c).take 2 = b.take 2 := List.take_append_of_le_length (by omega)
              have d2 : (b ++ c).drop 2 = b.drop 2 ++ c := List.drop_append_of_le_length (by omega)
              have hl : num (b.take 2) ≤ (b.drop 2).length := by rw [List.length_drop]; omega
              rw [if_neg (by rw [List.length_append]; omega), t2, if_neg (by rw [List.length_append]; omega), d2, List.take_append_of_le_length hl, List.drop_append_of_le_length hl, hf.1, hf.2]
        cases p with
        | num w k =>
          have h' : (if b.length < w then none else some (r0.setN k (num (b.take w) : Int), b.drop w)) = some (r', b') := hg
          show (if (b ++ c).length < w then none else some (r0.setN k (num ((b ++ c).take w) : Int), (b ++ c).drop w)) = _
          by_cases c1 : b.length < w
          · rw [if_pos c1] at h'; exact nomatch h'
          · rw [if_neg c1, Option.some.injEq, Prod.mk.injEq] at h'
            rw [if_neg (by rw [List.length_append]; omega), List.take_append_of_le_length (by omega), List.drop_append_of_le_length (by omega), h'.1, h'.2]
        | text k => exact two (fun s => r0.setT k s) hg
        | data => exact two (fun s => { r0 with data := s }) hg
      rw [hg2]
      exact take_some t _ _ _ _ h c
theorem take_short (r : Rq) (l : List Pt) (r0 : Rq) (h : ∀ p ∈ l, fit r p = 0) (k : Nat) (hk : k < (l.flatMap (bytesF r)).length) : takeF r0 ((l.flatMap (bytesF r)).take k) l = none := by
  cases e : takeF r0 ((l.flatMap (bytesF r)).take k) l with
  | none => rfl
  | some q =>
    exfalso
    have h1 := take_some l r0 q.1 _ q.2 e ((l.flatMap (bytesF r)).drop k)
    rw [List.take_append_drop] at h1
    have h2 := take_put r l r0 h []
    rw [List.append_nil, h1, Option.some.injEq, Prod.mk.injEq] at h2
    have := congrArg List.length h2.2
    rw [List.length_append, List.length_drop, List.length_nil] at this
    omega
def cellOf : Pt → Nat
  | .num _ k => k
  | .text k => k
  | .data => 8
/-- cells that a part may be of -/
def PtOk : Pt → Prop
  | .num w k => w ≤ 4 ∧ (k = 0 ∨ k = 1 ∨ k = 4 ∨ k = 5 ∨ k = 6 ∨ k = 7)
  | .text k => k = 2 ∨ k = 3
  | .data => True
theorem setN_n (r : Rq) (k j : Nat) (v : Int) (hk : k = 0 ∨ k = 1 ∨ k = 4 ∨ k = 5 ∨ k = 6 ∨ k = 7) (hj : j = 0 ∨ j = 1 ∨ j = 4 ∨ j = 5 ∨ j = 6 ∨ j = 7) : (r.setN k v).n j = if j = k then v else r.n j := by
  rcases hk with rfl | rfl | rfl | rfl | rfl | rfl <;> rcases hj with rfl | rfl | rfl | rfl | rfl | rfl <;> rfl
theorem setT_t (r : Rq) (k j : Nat) (v : List UInt8) (hk : k = 2 ∨ k = 3) (hj : j = 2 ∨ j = 3) : (r.setT k v).t j = if j = k then v else r.t j := by
  rcases hk with rfl | rfl <;> rcases hj with rfl | rfl <;> rfl
theorem setN_t (r : Rq) (k j : Nat) (v : Int) : (r.setN k v).t j = r.t j := by
  unfold Rq.setN; repeat (first | rfl | split)
theorem setN_d (r : Rq) (k : Nat) (v : Int) : (r.setN k v).data = r.data := by
  unfold Rq.setN; repeat (first | rfl | split)
theorem setT_n (r : Rq) (k j : Nat) (v : List UInt8) : (r.setT k v).n j = r.n j := by
  unfold Rq.setT; split <;> rfl
theorem setT_d (r : Rq) (k : Nat) (v : List UInt8) : (r.setT k v).data = r.data := by
  unfold Rq.setT; split <;> rfl
theorem same_n {r r' : Rq} {w j : Nat} (h : r'.n j = r.n j) : bytesF r' (.num w j) = bytesF r (.num w j) ∧ fit r' (.num w j) = fit r (.num w j) :=
  ⟨congrArg (fun v : Int => nb w v.toNat) h, congrArg (fun v : Int => if v < 0 ∨ (256 : Int) ^ w ≤ v then (2 : Int) else 0) h⟩
theorem same_t {r r' : Rq} {j : Nat} (h : r'.t j = r.t j) : bytesF r' (.text j) = bytesF r (.text j) ∧ fit r' (.text j) = fit r (.text j) :=
  ⟨congrArg (fun s : List UInt8 => nb 2 s.length ++ s) h, congrArg (fun s : List UInt8 => if 200 < s.length then (1 : Int) else 0) h⟩
theorem same_d {r r' : Rq} (h : r'.data = r.data) : bytesF r' .data = bytesF r .data ∧ fit r' .data = fit r .data :=
  ⟨congrArg (fun s : List UInt8 => nb 2 s.length ++ s) h, congrArg (fun s : List UInt8 => if 100 < s.length then (1 : Int) else 0) h⟩
/-- what is got are these bytes; other cells stay -/
theorem get_back {r0 r' : Rq} {b b' : List UInt8} {p : Pt} (hp : PtOk p) (h : getF r0 b p = some (r', b')) : b = bytesF r' p ++ b' ∧ ∀ q, PtOk q → cellOf q ≠ cellOf p → bytesF r' q = bytesF r0 q ∧ fit r' q = fit r0 q := by
  have two : ∀ (f : List UInt8 → Rq), (if b.length < 2 then none else if b.length - 2 < num (b.take 2) then none else some (f ((b.drop 2).take (num (b.take 2))), (b.drop 2).drop (num (b.take 2)))) = some (r', b') → ∃ s, r' = f s ∧ b = nb 2 s.length ++ s ++ b' := by
    intro f hf
    by_cases c1 : b.length < 2
    · rw [if_pos c1] at hf; exact nomatch hf
    · rw [if_neg c1] at hf
      by_cases c2 : b.length - 2 < num (b.take 2)
      · rw [if_pos c2] at hf; exact nomatch hf
      · rw [if_neg c2, Option.some.injEq, Prod.mk.injEq] at hf
        refine ⟨_, hf.1.symm, ?_⟩
        have hl : ((b.drop 2).take (num (b.take 2))).length = num (b.take 2) := by rw [List.length_take, List.length_drop]; omega
        have h2 : (b.take 2).length = 2 := by rw [List.length_take]; omega
        have hn := nb_num (b.take 2)
        rw [h2] at hn
        rw [hl, hn, ← hf.2, List.append_assoc, List.take_append_drop, List.take_append_drop]
  cases p with
  | num w k =>
    have h' : (if b.length < w then none else some (r0.setN k (num (b.take w) : Int), b.drop w)) = some (r', b') := h
    by_cases c1 : b.length < w
    · rw [if_pos c1] at h'; exact nomatch h'
    · rw [if_neg c1, Option.some.injEq, Prod.mk.injEq] at h'
      obtain ⟨rfl, rfl⟩ := h'
      have hw : (b.take w).length = w := by rw [List.length_take]; omega
      have hn := nb_num (b.take w)
      rw [hw] at hn
      refine ⟨?_, fun q hq hc => ?_⟩
      · show b = nb w ((r0.setN k (num (b.take w) : Int)).n k).toNat ++ b.drop w
        rw [setN_n _ _ _ _ hp.2 hp.2, if_pos rfl, Int.toNat_natCast, hn, List.take_append_drop]
      · cases q with
        | num w2 j =>
          have hj : j ≠ k := hc
          exact same_n (by rw [setN_n _ _ _ _ hp.2 hq.2, if_neg hj])
        | text j => exact same_t (setN_t ..)
        | data => exact same_d (setN_d ..)
  | text k =>
    obtain ⟨s, rfl, hb⟩ := two (fun s => r0.setT k s) h
    refine ⟨?_, fun q hq hc => ?_⟩
    · show b = nb 2 ((r0.setT k s).t k).length ++ (r0.setT k s).t k ++ b'
      rw [setT_t _ _ _ _ hp hp, if_pos rfl]; exact hb
    · cases q with
      | num w2 j => exact same_n (setT_n ..)
      | text j =>
        have hj : j ≠ k := hc
        exact same_t (by rw [setT_t _ _ _ _ hp hq, if_neg hj])
      | data => exact same_d (setT_d ..)
  | data =>
    obtain ⟨s, rfl, hb⟩ := two (fun s => { r0 with data := s }) h
    refine ⟨hb, fun q hq hc => ?_⟩
    cases q with
    | num w2 j => exact ⟨rfl, rfl⟩
    | text j => exact ⟨rfl, rfl⟩
    | data => exact absurd rfl hc
theorem take_keep : ∀ (l : List Pt) (r0 r1 : Rq) (b b1 : List UInt8), (∀ p ∈ l, PtOk p) → takeF r0 b l = some (r1, b1) → ∀ q, PtOk q → (∀ p ∈ l, cellOf q ≠ cellOf p) → bytesF r1 q = bytesF r0 q ∧ fit r1 q = fit r0 q
  | [], r0, r1, b, b1, _, h, q, _, _ => by
    simp only [takeF, Option.some.injEq, Prod.mk.injEq] at h
    rw [h.1]; exact ⟨rfl, rfl⟩
  | p :: t, r0, r1, b, b1, hl, h, q, hq, hc => by
    unfold takeF at h
    cases hg : getF r0 b p with
    | none => rw [hg] at h; exact nomatch h
    | some x =>
      obtain ⟨r', b'⟩ := x
      rw [hg] at h
      have h1 := take_keep t r' r1 b' b1 (fun x hx => hl x (List.mem_cons_of_mem _ hx)) h q hq (fun x hx => hc x (List.mem_cons_of_mem _ hx))
      have h2 := (get_back (hl p (by simp)) hg).2 q hq (hc p (by simp))
      exact ⟨h1.1.trans h2.1, h1.2.trans h2.2⟩
theorem take_back : ∀ (l : List Pt) (r0 r1 : Rq) (b b1 : List UInt8), (∀ p ∈ l, PtOk p) → l.Pairwise (fun p q => cellOf p ≠ cellOf q) → takeF r0 b l = some (r1, b1) → b = l.flatMap (bytesF r1) ++ b1
  | [], r0, r1, b, b1, _, _, h => by
    simp only [takeF, Option.some.injEq, Prod.mk.injEq] at h
    rw [h.2]; rfl
  | p :: t, r0, r1, b, b1, hl, hd, h => by
    unfold takeF at h
    cases hg : getF r0 b p with
    | none => rw [hg] at h; exact nomatch h
    | some x =>
      obtain ⟨r', b'⟩ := x
      rw [hg] at h
      obtain ⟨d1, d2⟩ := List.pairwise_cons.1 hd
      have h1 := take_back t r' r1 b' b1 (fun x hx => hl x (List.mem_cons_of_mem _ hx)) d2 h
      have h2 := (take_keep t r' r1 b' b1 (fun x hx => hl x (List.mem_cons_of_mem _ hx)) h p (hl p (by simp)) d1).1
      rw [(get_back (hl p (by simp)) hg).1, List.flatMap_cons, h2, List.append_assoc, ← h1]
def allP (kind : Int) : List Pt := begunF ++ partsF kind
theorem parts_ok (kind : Int) : (∀ p ∈ allP kind, PtOk p) ∧ (allP kind).Pairwise (fun p q => cellOf p ≠ cellOf q) := by
  unfold allP begunF partsF
  repeat' split
  all_goals refine ⟨?_, by simp [cellOf]⟩
  all_goals simp [PtOk]
def clr (r : Rq) : Pt → Rq
  | .num _ k => if k = 0 then r else r.setN k 0
  | .text k => r.setT k []
  | .data => { r with data := [] }
/-- has it nothing but what its kind names? -/
def clear (r : Rq) : Rq := (allP r.kind).foldl clr r
def bareF (r : Rq) : Bool := decide ((clear r).mark = 0 ∧ (clear r).path = [] ∧ (clear r).to_ = [] ∧ (clear r).how = 0 ∧ (clear r).handle = 0 ∧ (clear r).at_ = 0 ∧ (clear r).count = 0 ∧ (clear r).data = [])
def askF (r : Rq) : List UInt8 × Int :=
  if partsF r.kind = [] then ([], 3) else if bareF r = false then ([], 4) else if allF r (allP r.kind) 0 = 0 then ((allP r.kind).flatMap (bytesF r), 0) else ([], allF r (allP r.kind) 0)
def askedF (b : List UInt8) : Rq × Int :=
  match takeF Rq.zero b begunF with
  | none => (Rq.zero, 5)
  | some (r, b1) =>
    if partsF r.kind = [] then (Rq.zero, 3)
    else match takeF r b1 (partsF r.kind) with
      | none => (Rq.zero, 5)
      | some (r2, b2) => if b2 = [] ∧ allF r2 (partsF r.kind) 0 = 0 then (r2, 0) else (Rq.zero, 4)
theorem bare_copy (r : Rq) (h : bareF r = true) (hp : partsF r.kind ≠ []) : cpys Rq.zero r (allP r.kind) = r := by
  obtain ⟨kind, mark, path, to_, how, handle, at_, count, data⟩ := r
  unfold bareF at h
  have h' := of_decide_eq_true h
  unfold clear allP begunF partsF at h'
  unfold cpys allP begunF partsF
  unfold partsF at hp
  simp only at h' hp ⊢
  repeat' split
  all_goals simp_all [cpy, clr, Rq.setN, Rq.setT, Rq.n, Rq.t, Rq.zero]
theorem take_cons (r0 : Rq) (b : List UInt8) (p : Pt) (t : List Pt) : takeF r0 b (p :: t) = (match getF r0 b p with
    | none => none
    | some (r', b') => takeF r' b' t) := rfl
theorem take_app : ∀ (l m : List Pt) (r0 : Rq) (b : List UInt8), takeF r0 b (l ++ m) = match takeF r0 b l with
    | none => none
    | some (r1, b1) => takeF r1 b1 m
  | [], m, r0, b => rfl
  | p :: t, m, r0, b => by
    rw [List.cons_append, take_cons, take_cons]
    cases getF r0 b p with
    | none => rfl
    | some x => obtain ⟨r', b'⟩ := x; dsimp only; exact take_app t m r' b'
theorem cpys_kind (r : Rq) : (cpys Rq.zero r begunF).kind = r.kind := rfl
structure AskOk (r : Rq) : Prop where
  ne : partsF r.kind ≠ []
  bare : bareF r = true
  fits : ∀ p ∈ allP r.kind, fit r p = 0
  x : (askF r).1 = (allP r.kind).flatMap (bytesF r)
theorem ask_ok {r : Rq} (h : (askF r).2 = 0) : AskOk r := by
  unfold askF at h
  by_cases c1 : partsF r.kind = []
  · rw [if_pos c1] at h; exact absurd h (by decide)
  · rw [if_neg c1] at h
    by_cases c2 : bareF r = false
    · rw [if_pos c2] at h; exact absurd h (by decide)
    · rw [if_neg c2] at h
      have hb : bareF r = true := by cases e : bareF r with
        | true => rfl
        | false => exact absurd e c2
      by_cases c3 : allF r (allP r.kind) 0 = 0
      · exact ⟨c1, hb, ((all_ok _ _ _).1 c3).2, by unfold askF; rw [if_neg c1, if_neg c2, if_pos c3]⟩
      · rw [if_neg c3] at h; exact absurd h c3
theorem ask_back {r : Rq} (h : (askF r).2 = 0) : askedF (askF r).1 = (r, 0) ∧ (∀ k, k < (askF r).1.length → (askedF ((askF r).1.take k)).2 = 5) ∧ ∀ m, (askedF ((askF r).1 ++ 0 :: m)).2 = 4 := by
  obtain ⟨h1, h2, h3, h4⟩ := ask_ok h
  rw [h4]
  have hb := bare_copy r h2 h1
  have hfb : ∀ p ∈ begunF, fit r p = 0 := fun p hp => h3 p (List.mem_append_left _ hp)
  have hfp : ∀ p ∈ partsF r.kind, fit r p = 0 := fun p hp => h3 p (List.mem_append_right _ hp)
  have hx : (allP r.kind).flatMap (bytesF r) = begunF.flatMap (bytesF r) ++ (partsF r.kind).flatMap (bytesF r) := by unfold allP; rw [List.flatMap_append]
  have hcp : cpys (cpys Rq.zero r begunF) r (partsF r.kind) = r := by
    unfold allP cpys at hb
    rw [List.foldl_append] at hb
    exact hb
  have hrun : ∀ m, takeF Rq.zero ((allP r.kind).flatMap (bytesF r) ++ m) begunF = some (cpys Rq.zero r begunF, (partsF r.kind).flatMap (bytesF r) ++ m) := by
    intro m
    rw [hx, List.append_assoc]
    exact take_put r begunF _ hfb _
  have hrun2 : ∀ m, takeF (cpys Rq.zero r begunF) ((partsF r.kind).flatMap (bytesF r) ++ m) (partsF r.kind) = some (r, m) := by
    intro m
    rw [take_put r (partsF r.kind) _ hfp, hcp]
  have hall : allF r (partsF r.kind) 0 = 0 := (all_ok _ _ _).2 ⟨rfl, hfp⟩
  have hgen : ∀ m, askedF ((allP r.kind).flatMap (bytesF r) ++ m) = if m = [] then (r, 0) else (Rq.zero, 4) := by
    intro m
    unfold askedF
    rw [hrun m]
    show (if partsF (cpys Rq.zero r begunF).kind = [] then (Rq.zero, (3 : Int)) else match takeF (cpys Rq.zero r begunF) ((partsF r.kind).flatMap (bytesF r) ++ m) (partsF r.kind) with
      | none => (Rq.zero, 5)
      | some (r2, b2) => if b2 = [] ∧ allF r2 (partsF r.kind) 0 = 0 then (r2, 0) else (Rq.zero, 4)) = _
    rw [if_neg (show ¬ partsF (cpys Rq.zero r begunF).kind = [] from h1), hrun2 m]
    simp only [hall, and_true]
  refine ⟨?_, fun k hk => ?_, fun m => ?_⟩
  · have := hgen []
    rw [List.append_nil, if_pos rfl] at this
    exact this
  · have hs := take_short r (allP r.kind) Rq.zero h3 k hk
    unfold allP at hs
    rw [take_app] at hs
    unfold askedF
    cases e : takeF Rq.zero (List.take k ((allP r.kind).flatMap (bytesF r))) begunF with
    | none => rfl
    | some q =>
      obtain ⟨r1, b1⟩ := q
      have e' : takeF Rq.zero (List.take k ((begunF ++ partsF r.kind).flatMap (bytesF r))) begunF = some (r1, b1) := e
      rw [e'] at hs
      simp only at hs
      have h5 := take_some begunF _ _ _ _ e (((allP r.kind).flatMap (bytesF r)).drop k)
      rw [List.take_append_drop] at h5
      have h6 := hrun []
      rw [List.append_nil, h5, Option.some.injEq, Prod.mk.injEq] at h6
      have hk1 : r1.kind = r.kind := by rw [h6.1]; exact cpys_kind r
      simp only
      rw [hk1, if_neg h1, hs]
  · rw [hgen (0 :: m), if_neg (by simp)]
/-- bytes that are read are those of what was read -/
theorem asked_code (b : List UInt8) : (askedF b).2 = 0 ∨ ((askedF b).2 = 5 ∨ (askedF b).2 = 3 ∨ (askedF b).2 = 4) ∧ (askedF b).1 = Rq.zero := by
  unfold askedF
  split
  · exact .inr ⟨.inl rfl, rfl⟩
  · split
    · exact .inr ⟨.inr (.inl rfl), rfl⟩
    · split
      · exact .inr ⟨.inl rfl, rfl⟩
      · split
        · exact .inl rfl
        · exact .inr ⟨.inr (.inr rfl), rfl⟩
def sameC (r r' : Rq) : Pt → Prop
  | .num _ k => r.n k = r'.n k
  | .text k => r.t k = r'.t k
  | .data => r.data = r'.data
theorem get_same {r0 r' : Rq} {b b' : List UInt8} {p : Pt} (hp : PtOk p) (h : getF r0 b p = some (r', b')) : r' = cpy r0 r' p ∧ (∀ q, PtOk q → cellOf q ≠ cellOf p → sameC r' r0 q) ∧ ∀ w k, p = .num w k → fit r' p = 0 := by
  have two : ∀ (f : List UInt8 → Rq), (if b.length < 2 then none else if b.length - 2 < num (b.take 2) then none else some (f ((b.drop 2).take (num (b.take 2))), (b.drop 2).drop (num (b.take 2)))) = some (r', b') → ∃ s, r' = f s := by
    intro f hf
    split at hf
    · exact nomatch hf
    · split at hf
      · exact nomatch hf
      · rw [Option.some.injEq, Prod.mk.injEq] at hf
        exact ⟨_, hf.1.symm⟩
  cases p with
  | num w k =>
    have h' : (if b.length < w then none else some (r0.setN k (num (b.take w) : Int), b.drop w)) = some (r', b') := h
    by_cases c1 : b.length < w
    · rw [if_pos c1] at h'; exact nomatch h'
    · rw [if_neg c1, Option.some.injEq, Prod.mk.injEq] at h'
      obtain ⟨rfl, rfl⟩ := h'
      have hk := setN_n r0 k k (num (b.take w) : Int) hp.2 hp.2
      rw [if_pos rfl] at hk
      refine ⟨?_, fun q hq hc => ?_, fun w2 k2 e => ?_⟩
      · show _ = r0.setN k ((r0.setN k (num (b.take w) : Int)).n k)
        rw [hk]
      · cases q with
        | num w2 j =>
          have hj : j ≠ k := hc
          show (r0.setN k _).n j = r0.n j
          rw [setN_n _ _ _ _ hp.2 hq.2, if_neg hj]
        | text j => exact setN_t ..
        | data => exact setN_d ..
      · show (if (r0.setN k (num (b.take w) : Int)).n k < 0 ∨ (256 : Int) ^ w ≤ (r0.setN k (num (b.take w) : Int)).n k then (2 : Int) else 0) = 0
        rw [hk]
        have h1 := num_lt (b.take w)
        rw [List.length_take, Nat.min_eq_left (by omega)] at h1
        have h2 : ((num (b.take w) : Nat) : Int) < (256 : Int) ^ w := by
          have := Int.ofNat_lt.2 h1
          rw [Int.natCast_pow] at this; exact this
        rw [if_neg (by omega)]
  | text k =>
    obtain ⟨s, rfl⟩ := two (fun s => r0.setT k s) h
    have hk := setT_t r0 k k s hp hp
    rw [if_pos rfl] at hk
    refine ⟨?_, fun q hq hc => ?_, fun w2 k2 e => (nomatch e)⟩
    · show _ = r0.setT k ((r0.setT k s).t k)
      rw [hk]
    · cases q with
      | num w2 j => exact setT_n ..
      | text j =>
        have hj : j ≠ k := hc
        show (r0.setT k s).t j = r0.t j
        rw [setT_t _ _ _ _ hp hq, if_neg hj]
      | data => exact setT_d ..
  | data =>
    obtain ⟨s, rfl⟩ := two (fun s => { r0 with data := s }) h
    refine ⟨rfl, fun q hq hc => ?_, fun w2 k2 e => (nomatch e)⟩
    cases q with
    | num w2 j => rfl
    | text j => rfl
    | data => exact absurd rfl hc
theorem cpy_same {r r' : Rq} (r0 : Rq) {p : Pt} (h : sameC r r' p) : cpy r0 r p = cpy r0 r' p := by
  cases p with
  | num w k => exact congrArg (r0.setN k) h
  | text k => exact congrArg (r0.setT k) h
  | data => exact congrArg (fun d => { r0 with data := d }) h
theorem fit_same {r r' : Rq} {p : Pt} (h : sameC r r' p) : fit r p = fit r' p := by
  cases p with
  | num w k => exact (same_n h).2
  | text k => exact (same_t h).2
  | data => exact (same_d h).2
theorem sameC.trans {r r' r2 : Rq} {p : Pt} (h : sameC r r' p) (g : sameC r' r2 p) : sameC r r2 p := by
  cases p with
  | num w k => exact Eq.trans h g
  | text k => exact Eq.trans h g
  | data => exact Eq.trans h g
theorem sameC.refl (r : Rq) (p : Pt) : sameC r r p := by
  cases p <;> exact rfl
theorem take_same : ∀ (l : List Pt) (r0 r1 : Rq) (b b1 : List UInt8), (∀ p ∈ l, PtOk p) → l.Pairwise (fun p q => cellOf p ≠ cellOf q) → takeF r0 b l = some (r1, b1) →
    r1 = cpys r0 r1 l ∧ (∀ q, PtOk q → (∀ p ∈ l, cellOf q ≠ cellOf p) → sameC r1 r0 q) ∧ ∀ w k, .num w k ∈ l → fit r1 (.num w k) = 0
  | [], r0, r1, b, b1, _, _, h => by
    simp only [takeF, Option.some.injEq, Prod.mk.injEq] at h
    rw [h.1]
    exact ⟨rfl, fun q _ _ => sameC.refl _ _, fun w k hm => (nomatch hm)⟩
  | p :: t, r0, r1, b, b1, hl, hd, h => by
    rw [take_cons] at h
    cases hg : getF r0 b p with
    | none => rw [hg] at h; exact nomatch h
    | some x =>
      obtain ⟨r', b'⟩ := x
      rw [hg] at h
      obtain ⟨d1, d2⟩ := List.pairwise_cons.1 hd
      obtain ⟨i1, i2, i3⟩ := take_same t r' r1 b' b1 (fun x hx => hl x (List.mem_cons_of_mem _ hx)) d2 h
      obtain ⟨g1, g2, g3⟩ := get_same (hl p (by simp)) hg
      have hs := i2 p (hl p (by simp)) d1
      refine ⟨?_, fun q hq hc => (i2 q hq fun x hx => hc x (List.mem_cons_of_mem _ hx)).trans (g2 q hq (hc p (by simp))), fun w k hm => ?_⟩
      · show r1 = cpys (cpy r0 r1 p) r1 t
        rw [cpy_same r0 hs, ← g1]; exact i1
      · rcases List.mem_cons.1 hm with e | hm
        · rw [e, fit_same hs]; exact g3 w k e.symm
        · exact i3 w k hm
theorem copy_bare (r : Rq) (h : cpys Rq.zero r (allP r.kind) = r) (hp : partsF r.kind ≠ []) : bareF r = true := by
  obtain ⟨kind, mark, path, to_, how, handle, at_, count, data⟩ := r
  unfold bareF
  refine decide_eq_true ?_
  unfold clear allP begunF partsF
  unfold cpys allP begunF partsF at h
  unfold partsF at hp
  simp only at h hp ⊢
  repeat' split
  all_goals try simp_all [cpy, clr, Rq.setN, Rq.setT, Rq.n, Rq.t, Rq.zero]
  all_goals omega
theorem asked_back (b : List UInt8) (h : (askedF b).2 = 0) : askF (askedF b).1 = (b, 0) := by
  unfold askedF at h ⊢
  cases e1 : takeF Rq.zero b begunF with
  | none => rw [e1] at h; exact absurd h (by decide)
  | some q =>
    obtain ⟨r1, b1⟩ := q
    rw [e1] at h
    simp only at h ⊢
    by_cases c1 : partsF r1.kind = []
    · rw [if_pos c1] at h; exact absurd h (by decide)
    · rw [if_neg c1] at h ⊢
      cases e2 : takeF r1 b1 (partsF r1.kind) with
      | none => rw [e2] at h; exact absurd (show (5 : Int) = 0 from h) (by decide)
      | some q2 =>
        obtain ⟨r2, b2⟩ := q2
        rw [e2] at h
        simp only at h ⊢
        by_cases c2 : b2 = [] ∧ allF r2 (partsF r1.kind) 0 = 0
        · rw [if_pos c2]
          have hall : takeF Rq.zero b (allP r1.kind) = some (r2, b2) := by
            unfold allP
            rw [take_app, e1]; exact e2
          obtain ⟨o1, o2⟩ := parts_ok r1.kind
          obtain ⟨s1, s2, s3⟩ := take_same _ _ _ _ _ o1 o2 hall
          have hb := take_back _ _ _ _ _ o1 o2 hall
          obtain ⟨_, w2, w3⟩ := List.pairwise_append.1 o2
          have hk : r2.kind = r1.kind := (take_same (partsF r1.kind) r1 r2 b1 b2 (fun p hp => o1 p (List.mem_append_right _ hp)) w2 e2).2.1 (.num 1 0) ⟨by decide, .inl rfl⟩ (fun p hp => w3 (.num 1 0) (by simp [begunF]) p hp)
          rw [← hk] at s1 s3 hb c1 c2
          have hbare := copy_bare r2 s1.symm c1
          have hfit : allF r2 (allP r2.kind) 0 = 0 := by
            refine (all_ok _ _ _).2 ⟨rfl, fun p hp => ?_⟩
            rcases List.mem_append.1 hp with hp | hp
            · have hp' : p = .num 1 0 ∨ p = .num 4 1 := by simpa [begunF] using hp
              rcases hp' with rfl | rfl
              · exact s3 1 0 (by simp [allP, begunF])
              · exact s3 4 1 (by simp [allP, begunF])
            · exact ((all_ok _ _ _).1 c2.2).2 p hp
          unfold askF
          rw [if_neg c1, if_neg (by rw [hbare]; decide), if_pos hfit, hb, c2.1, List.append_nil]
        · rw [if_neg c2] at h; exact absurd h (by decide)
end msg
end Go.Proofs.Ythplilldkdehnaa
