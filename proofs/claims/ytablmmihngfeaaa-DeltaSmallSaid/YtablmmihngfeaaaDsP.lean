/-
  PLAIN FACTS for DeltaSmall: pieces, a table of seeds, how many bytes are told. No program in sight.
-/
import Derived.Test.YtablmmihngfeaaaCom2
import Derived.Test.YtablmmihngfeaaaKit14
import Derived.Test.YtablmmihngfeaaaKit18
namespace Go.Proofs.Ytablmmihngfeaaa
open Go.RowKit
set_option linter.unusedVariables false
set_option linter.unusedSimpArgs false

namespace delta
/-- a piece -/
structure Pc where
  copy : Bool
  from_ : Int
  len : Int
  d : SlD UInt8
instance : Inhabited Pc := ⟨⟨false, 0, 0, default⟩⟩
def eC (p : Pc) : List Value := [.bool p.copy, .int .i64 p.from_, .int .i64 p.len, .slice p.d.ao p.d.n p.d.c]
instance : Enc eC 4 := ⟨fun _ => rfl, fun x u hu => by simp [eC] at hu; rcases hu with rfl | rfl | rfl | rfl <;> rfl⟩
/-- a piece that may be, of a file of so many bytes -/
structure Ok (m : Nat) (p : Pc) : Prop where
  dl : p.d.l.length = p.d.n
  cp : p.copy = true → p.d.n = 0
  nc : p.copy = false → p.from_ = 0 ∧ p.len = 0
  f0 : 0 ≤ p.from_ ∧ p.from_ ≤ m
  l0 : 0 ≤ p.len ∧ p.len ≤ m - p.from_
def pb (old : List UInt8) (p : Pc) : List UInt8 := (old.drop p.from_.toNat).take p.len.toNat ++ p.d.l
def pbs (old : List UInt8) (l : List Pc) : List UInt8 := l.flatMap (pb old)
theorem pbs_append (old : List UInt8) (l m : List Pc) : pbs old (l ++ m) = pbs old l ++ pbs old m := by simp [pbs]
theorem pbs_one (old : List UInt8) (p : Pc) : pbs old [p] = pb old p := by simp [pbs]
theorem take_snoc' {α : Type} [Inhabited α] (l : List α) (k : Nat) (h : k < l.length) : l.take (k + 1) = l.take k ++ [l.getD k default] := by
  rw [List.take_succ_eq_append_getElem h, List.getD_eq_getElem?_getD, List.getElem?_eq_getElem h]; rfl

def pcs (l : List UInt8) (i : Nat) : List UInt8 := (l.drop i).take 8
theorem pcs_at (l : List UInt8) (i j : Nat) : (pcs l i)[j]? = if j < 8 then l[i + j]? else none := by
  unfold pcs
  rw [List.getElem?_take]
  split
  · rw [List.getElem?_drop]
  · rfl
theorem fold_data : ∀ (l : List UInt8) (r : ByteArray), ((l.map fun x => (x.toNat : Int)).foldl (fun r n => r.push (UInt8.ofNat n.toNat)) r).data.toList = r.data.toList ++ l
  | [], r => by simp
  | x :: l, r => by
    simp only [List.map_cons, List.foldl_cons, Int.toNat_natCast, UInt8.ofNat_toNat]
    rw [fold_data l]
    show (r.data.push x).toList ++ l = _
    simp
theorem strOf_inj {a b : List UInt8} (h : strOf a = strOf b) : a = b := by
  have ha := fold_data a ByteArray.empty
  have hb := fold_data b ByteArray.empty
  unfold strOf at h
  rw [h, hb] at ha
  exact (List.append_cancel_left ha).symm
abbrev FS := List (ByteArray × SlD Nat)
def fcS (F : FS) : List (ByteArray × Value) := F.map fun e => (e.1, .slice e.2.ao e.2.n e.2.c)
theorem lookS (k : ByteArray) : ∀ (F : FS) (i : Nat), (lookI k (fcS F) i = none ∧ ∀ e ∈ F, e.1 ≠ k) ∨ ∃ j s, lookI k (fcS F) i = some (i + j, .slice s.ao s.n s.c) ∧ F[j]? = some (k, s)
  | [], i => .inl ⟨rfl, fun e he => by cases he⟩
  | e :: t, i => by
    by_cases hk : k = e.1
    · exact .inr ⟨0, e.2, by simp [fcS, lookI, hk], by simp [hk]⟩
    · rcases lookS k t (i + 1) with ⟨h, h2⟩ | ⟨j, s, h1, h2⟩
      · left
        refine ⟨by simp only [fcS, List.map_cons, lookI, if_neg hk]; exact h, fun x hx => ?_⟩
        rcases List.mem_cons.1 hx with rfl | hx
        · exact Ne.symm hk
        · exact h2 x hx
      · refine .inr ⟨j + 1, s, ?_, by simpa using h2⟩
        simp only [fcS, List.map_cons, lookI, if_neg hk]
        rw [show i + (j + 1) = i + 1 + j by omega]; exact h1
structure Tab (old : List UInt8) (i : Nat) (F : FS) : Prop where
  nd : (F.map (·.1)).Nodup
  sd : ∀ e ∈ F, e.2.n ≤ i ∧ e.2.l.length = e.2.n ∧ ∀ p ∈ e.2.l, p < i ∧ p + 8 ≤ old.length ∧ e.1 = strOf (pcs old p)
  cp : ∀ p, p < i → p + 8 ≤ old.length → ∃ e ∈ F, p ∈ e.2.l
  hd : ∀ e ∈ F, 0 ∈ e.2.l → e.2.l.getD 0 default = 0
theorem Tab.nil (old : List UInt8) : Tab old 0 [] := ⟨by simp, fun e he => (by cases he), fun p h => (by omega), fun e he => (by cases he)⟩
theorem Tab.new {old : List UInt8} {i : Nat} {F : FS} (h : Tab old i F) (hi : i + 8 ≤ old.length) (hno : ∀ e ∈ F, e.1 ≠ strOf (pcs old i)) (na : Option Addr) (nc : Nat) : Tab old (i + 1) (F ++ [(strOf (pcs old i), ⟨na, 1, nc, [i]⟩)]) := by
  refine ⟨?_, fun e he => ?_, fun p h1 h2 => ?_, fun e he h0 => ?_⟩
  · rw [List.map_append, List.nodup_append]
    refine ⟨h.nd, by simp, fun a ha b hb => ?_⟩
    obtain ⟨e, he, rfl⟩ := List.mem_map.1 ha
    simp at hb; subst hb
    exact hno e he
  · rcases List.mem_append.1 he with he | he
    · obtain ⟨a, b, c⟩ := h.sd e he
      exact ⟨by omega, b, fun p hp => ⟨by have := (c p hp).1; omega, (c p hp).2⟩⟩
    · simp at he; subst he
      exact ⟨by simp only; omega, rfl, fun p hp => by simp at hp; subst hp; exact ⟨by omega, hi, rfl⟩⟩
  · by_cases hp : p = i
    · subst hp; exact ⟨(strOf (pcs old p), ⟨na, 1, nc, [p]⟩), List.mem_append_right _ (List.mem_singleton.2 rfl), List.mem_singleton.2 rfl⟩
    · obtain ⟨e, he, hm⟩ := h.cp p (by omega) h2
      exact ⟨e, List.mem_append_left _ he, hm⟩
  · rcases List.mem_append.1 he with he | he
    · exact h.hd e he h0
    · simp at he; subst he
      simp at h0 ⊢; omega
theorem Tab.more {old : List UInt8} {i : Nat} {F : FS} (h : Tab old i F) (hi : i + 8 ≤ old.length) {j : Nat} {s : SlD Nat} (hs : F[j]? = some (strOf (pcs old i), s)) (na : Option Addr) (nc : Nat) : Tab old (i + 1) (F.set j (strOf (pcs old i), ⟨na, s.n + 1, nc, s.l ++ [i]⟩)) := by
  have hj : j < F.length := (List.getElem?_eq_some_iff.1 hs).1
  have hFj : F[j] = (strOf (pcs old i), s) := (List.getElem?_eq_some_iff.1 hs).2
  have hmem : (strOf (pcs old i), s) ∈ F := by rw [← hFj]; exact List.getElem_mem hj
  have hnew : (strOf (pcs old i), (⟨na, s.n + 1, nc, s.l ++ [i]⟩ : SlD Nat)) ∈ F.set j (strOf (pcs old i), ⟨na, s.n + 1, nc, s.l ++ [i]⟩) := List.mem_iff_getElem.2 ⟨j, by simpa using hj, by simp⟩
  refine ⟨?_, fun e he => ?_, fun p h1 h2 => ?_, fun e he h0 => ?_⟩
  · rw [List.map_set, show (strOf (pcs old i), (⟨na, s.n + 1, nc, s.l ++ [i]⟩ : SlD Nat)).1 = (F.map (·.1))[j]'(by simpa using hj) by simp [hFj], List.set_getElem_self]
    exact h.nd
  · rcases List.mem_or_eq_of_mem_set he with he | rfl
    · obtain ⟨a, b, c⟩ := h.sd e he
      exact ⟨by omega, b, fun p hp => ⟨by have := (c p hp).1; omega, (c p hp).2⟩⟩
    · obtain ⟨a, b, c⟩ := h.sd _ hmem
      simp only at a b c
      refine ⟨by simp only; omega, by simp only [List.length_append, List.length_singleton]; omega, fun p hp => ?_⟩
      rcases List.mem_append.1 hp with hp | hp
      · exact ⟨by have := (c p hp).1; omega, (c p hp).2⟩
      · simp at hp; subst hp; exact ⟨by omega, hi, rfl⟩
  · by_cases hp : p = i
    · subst hp; exact ⟨_, hnew, by simp⟩
    · obtain ⟨e, he, hm⟩ := h.cp p (by omega) h2
      obtain ⟨q, hq, rfl⟩ := List.mem_iff_getElem.1 he
      by_cases hqj : q = j
      · subst hqj
        rw [hFj] at hm
        exact ⟨_, hnew, List.mem_append_left _ hm⟩
      · exact ⟨F[q], List.mem_iff_getElem.2 ⟨q, by simpa using hq, by rw [List.getElem_set_ne (Ne.symm hqj)]⟩, hm⟩
  · rcases List.mem_or_eq_of_mem_set he with he | rfl
    · exact h.hd e he h0
    · obtain ⟨a, b, c⟩ := h.sd _ hmem
      simp only at a b c h0 ⊢
      have hd := h.hd _ hmem
      simp only at hd
      cases hsl : s.l with
      | nil => rw [hsl] at h0; simp at h0; rw [← h0]; rfl
      | cons x t =>
        rw [hsl] at h0 hd c
        have : 0 ∈ x :: t := by
          rcases List.mem_append.1 h0 with h | h
          · exact h
          · simp at h
            have := (c x (by simp)).1
            omega
        exact hd this
theorem Tab.none {old : List UInt8} {i : Nat} {F : FS} (h : Tab old i F) (hall : ∀ p, p + 8 ≤ old.length → p < i) {x : List UInt8} (hno : ∀ e ∈ F, e.1 ≠ strOf x) : ∀ p, p + 8 ≤ old.length → pcs old p ≠ x := fun p hp hx => by
  obtain ⟨e, he, hm⟩ := h.cp p (hall p hp) hp
  obtain ⟨_, _, c⟩ := h.sd e he
  exact hno e he (by rw [(c p hm).2.2, hx])
theorem Tab.some {old : List UInt8} {i : Nat} {F : FS} (h : Tab old i F) (hall : ∀ p, p + 8 ≤ old.length → p < i) {x : List UInt8} {j : Nat} {s : SlD Nat} (hs : F[j]? = some (strOf x, s)) : (∀ p, p + 8 ≤ old.length → pcs old p = x → p ∈ s.l) ∧ (∀ p ∈ s.l, p + 8 ≤ old.length ∧ pcs old p = x) ∧ s.n ≤ i ∧ s.l.length = s.n ∧ (0 ∈ s.l → s.l.getD 0 default = 0) := by
  have hj : j < F.length := (List.getElem?_eq_some_iff.1 hs).1
  have hFj : F[j] = (strOf x, s) := (List.getElem?_eq_some_iff.1 hs).2
  have hmem : (strOf x, s) ∈ F := by rw [← hFj]; exact List.getElem_mem hj
  obtain ⟨a, b, c⟩ := h.sd _ hmem
  simp only at a b c
  refine ⟨fun p hp hx => ?_, fun p hp => ⟨(c p hp).2.1, (strOf_inj (c p hp).2.2).symm⟩, a, b, h.hd _ hmem⟩
  obtain ⟨e, he, hm⟩ := h.cp p (hall p hp) hp
  obtain ⟨_, _, c2⟩ := h.sd e he
  have hk := (c2 p hm).2.2
  rw [hx] at hk
  obtain ⟨q, hq, rfl⟩ := List.mem_iff_getElem.1 he
  have : q = j := by
    have h1 : (F.map (·.1))[q]'(by simpa using hq) = (F.map (·.1))[j]'(by simpa using hj) := by simp [hFj, hk]
    exact (List.getElem_inj h.nd).1 h1
  subst this
  rw [hFj] at hm
  exact hm
def Un (old now : List UInt8) (a : Nat) : Prop := a + 8 ≤ now.length → ∀ p, p + 8 ≤ old.length → pcs old p ≠ pcs now a
inductive Lit (old now : List UInt8) : Nat → Nat → Prop
  | nil : Lit old now 0 0
  | copy {a t k : Nat} : Lit old now a t → 8 ≤ k → Lit old now (a + k) t
  | lit {a t : Nat} : Lit old now a t → Un old now a → Lit old now (a + 1) (t + 1)
def told (A : List Pc) : Nat := (A.map fun p => p.d.l.length).sum
theorem told_snoc (A : List Pc) (p : Pc) : told (A ++ [p]) = told A + p.d.l.length := by simp [told]
def Dl (old now : List UInt8) (a : Nat) (A : List Pc) : Prop :=
  Lit old now a (told A) ∧ (∀ p ∈ A, p.copy = true → 8 ≤ p.len) ∧ (old = now → 8 ≤ now.length → (a = 0 ∧ A = []) ∨ (a = now.length ∧ ∃ x, A = [⟨true, 0, (now.length : Int), x⟩]))
theorem Dl.nil (old now : List UInt8) : Dl old now 0 [] := ⟨.nil, fun p hp => (by cases hp), fun _ _ => .inl ⟨rfl, rfl⟩⟩
theorem Dl.copy {old now : List UInt8} {a f k : Nat} {A : List Pc} (h : Dl old now a A) (h8 : 8 ≤ k) (hk : a + k ≤ now.length) (hf : old = now → 8 ≤ now.length → a = 0 → f = 0 ∧ k = now.length) {x : SlD UInt8} (hx : x.l = []) : Dl old now (a + k) (A ++ [⟨true, (f : Int), (k : Int), x⟩]) := by
  obtain ⟨h1, h2, h3⟩ := h
  refine ⟨?_, fun p hp hc => ?_, fun e e8 => ?_⟩
  · rw [told_snoc]; simp only [hx, List.length_nil, Nat.add_zero]; exact .copy h1 h8
  · rcases List.mem_append.1 hp with hp | hp
    · exact h2 p hp hc
    · simp at hp; subst hp; simp only; omega
  · rcases h3 e e8 with ⟨rfl, rfl⟩ | ⟨rfl, _⟩
    · obtain ⟨rfl, rfl⟩ := hf e e8 rfl
      exact .inr ⟨by omega, x, by simp⟩
    · omega
theorem Dl.lit {old now : List UInt8} {a : Nat} {A B : List Pc} (h : Dl old now a A) (hu : Un old now a) (ha : a < now.length) (ht : told B = told A + 1) (hB : ∀ p ∈ B, p.copy = true → p ∈ A) : Dl old now (a + 1) B := by
  obtain ⟨h1, h2, h3⟩ := h
  refine ⟨by rw [ht]; exact .lit h1 hu, fun p hp hc => h2 p (hB p hp hc) hc, fun e e8 => ?_⟩
  rcases h3 e e8 with ⟨rfl, _⟩ | ⟨rfl, _⟩
  · exact absurd (by rw [e]) (hu (by omega) 0 (by rw [e]; omega))
  · omega
theorem getD_pcs {l : List UInt8} {i j : Nat} (hj : j < 8) : (l.drop i).getD j default = ((pcs l i)[j]?).getD default := by
  rw [pcs_at, if_pos hj, List.getD_eq_getElem?_getD, List.getElem?_drop]
theorem eight {old now : List UInt8} {p a k : Nat} (h : pcs old p = pcs now a) (hp : p + 8 ≤ old.length) (ha : a + 8 ≤ now.length) (hk : k < old.length - p → k < now.length - a → (old.drop p).getD k default ≠ (now.drop a).getD k default) : 8 ≤ k := by
  by_cases hh : 8 ≤ k
  · exact hh
  · exact absurd (by rw [getD_pcs (by omega), getD_pcs (by omega), h]) (hk (by omega) (by omega))
theorem Lit.bound {old add : List UInt8} {k : Nat} (hk : k ≤ old.length) {a t : Nat} (h : Lit old (old.take k ++ add ++ old.drop k) a t) : t ≤ (min a (k + add.length) - (k - 7)) + (a - max (k + add.length) (old.length + add.length - 7)) := by
  have hN : (old.take k ++ add ++ old.drop k).length = old.length + add.length := by
    simp only [List.length_append, List.length_take, List.length_drop]; omega
  induction h with
  | nil => omega
  | copy _ _ ih => omega
  | @lit a t _ hu ih =>
    have n1 : ¬ a + 8 ≤ k := fun h => by
      refine hu (by omega) a (by omega) ?_
      apply List.ext_getElem?
      intro j
      rw [pcs_at, pcs_at]
      split
      · rw [List.append_assoc, List.getElem?_append_left (by rw [List.length_take]; omega), List.getElem?_take, if_pos (by omega)]
      · rfl
    have n2 : ¬ (k + add.length ≤ a ∧ a + 8 ≤ old.length + add.length) := fun ⟨h1, h2⟩ => by
      refine hu (by omega) (a - add.length) (by omega) ?_
      apply List.ext_getElem?
      intro j
      rw [pcs_at, pcs_at]
      split
      · rw [List.getElem?_append_right (by rw [List.length_append, List.length_take]; omega), List.getElem?_drop]
        congr 1
        rw [List.length_append, List.length_take]; omega
      · rfl
    omega
theorem Lit.small {old add : List UInt8} {k : Nat} (hk : k ≤ old.length) {t : Nat} (h : Lit old (old.take k ++ add ++ old.drop k) (old.length + add.length) t) : t ≤ add.length + 14 := by
  have := h.bound hk
  omega
end delta
end Go.Proofs.Ytablmmihngfeaaa
