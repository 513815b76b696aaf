/-
  PATTERNS IN PLAIN LEAN: what a row of parts is of ('Mt'); a search that goes on from its last run finds it ('Inv'); what parts bytes are ('Toks'). No program in sight, no condition.
-/
import Derived.Test.YtmkojbeongiimaaKit23
namespace Go.Proofs.Ytmkojbeongiimaa
set_option linter.unusedVariables false
set_option linter.unusedSimpArgs false

abbrev Pt := Nat → Bool
namespace glob
inductive Mt : List Pt → List UInt8 → Prop where
  | nil : Mt [] []
  | one {p : Pt} {ps : List Pt} {c : UInt8} {t : List UInt8} : p 0 = false → p (0 + 1 + c.toNat) = true → Mt ps t → Mt (p :: ps) (c :: t)
  | run0 {p : Pt} {ps : List Pt} {s : List UInt8} : p 0 = true → Mt ps s → Mt (p :: ps) s
  | run1 {p : Pt} {ps : List Pt} {c : UInt8} {t : List UInt8} : p 0 = true → Mt (p :: ps) t → Mt (p :: ps) (c :: t)
theorem Mt.run {p : Pt} {ps : List Pt} (h : p 0 = true) {v : List UInt8} (hv : Mt ps v) : ∀ u : List UInt8, Mt (p :: ps) (u ++ v)
  | [] => .run0 h hv
  | _ :: u => .run1 h (Mt.run h hv u)
theorem Mt.run_inv {l : List Pt} {s : List UInt8} (h : Mt l s) : ∀ {p : Pt} {ps : List Pt}, l = p :: ps → p 0 = true → ∃ u v, s = u ++ v ∧ Mt ps v := by
  induction h with
  | nil => intro p ps e; cases e
  | one h1 h2 h3 ih => intro p ps e hp; obtain ⟨rfl, rfl⟩ := List.cons.inj e; rw [h1] at hp; cases hp
  | run0 h1 h2 ih => intro p ps e hp; obtain ⟨rfl, rfl⟩ := List.cons.inj e; exact ⟨[], _, rfl, h2⟩
  | run1 h1 h2 ih =>
    intro p ps e hp
    obtain ⟨u, v, e1, e2⟩ := ih e hp
    exact ⟨_ :: u, v, by rw [e1]; rfl, e2⟩
theorem Mt.one_inv {p : Pt} {ps : List Pt} {s : List UInt8} (h : Mt (p :: ps) s) (hp : p 0 = false) : ∃ c t, s = c :: t ∧ p (0 + 1 + c.toNat) = true ∧ Mt ps t := by
  cases h with
  | one h1 h2 h3 => exact ⟨_, _, rfl, h2, h3⟩
  | run0 h1 h2 => rw [hp] at h1; cases h1
  | run1 h1 h2 => rw [hp] at h1; cases h1
theorem Mt.nil_inv {s : List UInt8} (h : Mt [] s) : s = [] := by cases h; rfl
theorem Mt.app {a b : List Pt} {u v : List UInt8} (h : Mt a u) (k : Mt b v) : Mt (a ++ b) (u ++ v) := by
  induction h with
  | nil => exact k
  | one h1 h2 h3 ih => exact .one h1 h2 ih
  | run0 h1 h2 ih => exact .run0 h1 ih
  | run1 h1 h2 ih => exact .run1 h1 ih
theorem Mt.split : ∀ {a b : List Pt} {s : List UInt8}, Mt (a ++ b) s → ∃ u v, s = u ++ v ∧ Mt a u ∧ Mt b v
  | [], b, s, h => ⟨[], s, rfl, .nil, h⟩
  | p :: a, b, s, h => by
    cases hp : p 0 with
    | false =>
      obtain ⟨c, t, rfl, h2, h3⟩ := Mt.one_inv h hp
      obtain ⟨u, v, rfl, h4, h5⟩ := Mt.split h3
      exact ⟨c :: u, v, rfl, .one hp h2 h4, h5⟩
    | true =>
      obtain ⟨u0, v0, rfl, h3⟩ := h.run_inv rfl hp
      obtain ⟨u, v, rfl, h4, h5⟩ := Mt.split h3
      exact ⟨u0 ++ u, v, by rw [List.append_assoc], .run hp h4 u0, h5⟩
theorem Mt.rev : ∀ {l : List Pt} {s : List UInt8}, Mt l s → Mt l.reverse s.reverse
  | [], s, h => by rw [Mt.nil_inv h]; exact .nil
  | p :: ps, s, h => by
    rw [List.reverse_cons]
    cases hp : p 0 with
    | false =>
      obtain ⟨c, t, rfl, h2, h3⟩ := Mt.one_inv h hp
      rw [List.reverse_cons]
      exact Mt.app (Mt.rev h3) (.one hp h2 .nil)
    | true =>
      obtain ⟨u, v, rfl, h3⟩ := h.run_inv rfl hp
      rw [List.reverse_append]
      refine Mt.app (Mt.rev h3) ?_
      have := Mt.run hp (v := []) (ps := []) .nil u.reverse
      rwa [List.append_nil] at this
theorem mt_rev {l : List Pt} {s : List UInt8} : Mt l.reverse s.reverse ↔ Mt l s := ⟨fun h => by have := Mt.rev h; rwa [List.reverse_reverse, List.reverse_reverse] at this, Mt.rev⟩

theorem drop_at {α : Type} [Inhabited α] {l : List α} {i : Nat} (h : i < l.length) : l.drop i = l.getD i default :: l.drop (i + 1) := by
  rw [List.drop_eq_getElem_cons h]
  simp [List.getElem?_eq_getElem h]
/-- single parts take a byte each -/
theorem seg_split {L : List Pt} : ∀ {m k : Nat} {d : List UInt8}, (∀ j, k ≤ j → j < k + m → (L.getD j default) 0 = false) → k + m ≤ L.length → Mt (L.drop k) d → m ≤ d.length ∧ Mt (L.drop (k + m)) (d.drop m)
  | 0, k, d, _, _, h => ⟨Nat.zero_le _, h⟩
  | m + 1, k, d, h1, h2, h => by
    rw [drop_at (by omega)] at h
    obtain ⟨c, t, rfl, h3, h4⟩ := Mt.one_inv h (h1 k (Nat.le_refl _) (by omega))
    obtain ⟨h5, h6⟩ := seg_split (m := m) (k := k + 1) (fun j h3 h4 => h1 j (by omega) (by omega)) (by omega) h4
    refine ⟨by simp only [List.length_cons]; omega, ?_⟩
    rw [show k + (m + 1) = k + 1 + m by omega]
    exact h6

/-- the search: at part i and byte a, behind its last run r (if any), which has bytes up to f -/
def Inv (L : List Pt) (s : List UInt8) (i a : Nat) (r : Option Nat) (f : Nat) : Prop :=
  i ≤ L.length ∧ a ≤ s.length ∧ f ≤ a ∧ match r with
  | none => (Mt L s ↔ Mt (L.drop i) (s.drop a))
  | some k => k < i ∧ i - (k + 1) = a - f ∧ (∀ j, k + 1 ≤ j → j < k + 1 + (i - (k + 1)) → (L.getD j default) 0 = false) ∧ (Mt L s ↔ Mt (L.drop i) (s.drop a) ∨ ∃ g, f < g ∧ g ≤ s.length ∧ Mt (L.drop (k + 1)) (s.drop g))
variable {L : List Pt} {s : List UInt8} {i a f : Nat} {r : Option Nat}
theorem Inv.start : Inv L s 0 0 none 0 := ⟨Nat.zero_le _, Nat.zero_le _, Nat.le_refl _, Iff.rfl⟩
theorem mt_run {p : Pt} {ps : List Pt} (hp : p 0 = true) : Mt (p :: ps) (s.drop a) ↔ Mt ps (s.drop a) ∨ ∃ g, a < g ∧ g ≤ s.length ∧ Mt ps (s.drop g) := by
  constructor
  · intro h
    obtain ⟨u, v, e, h3⟩ := h.run_inv rfl hp
    have hv : v = s.drop (a + u.length) := by
      rw [← List.drop_drop, e, List.drop_left]
    rw [hv] at h3
    by_cases hu : u.length = 0
    · left; rw [hu] at h3; exact h3
    · right
      by_cases hl : a + u.length ≤ s.length
      · exact ⟨_, by omega, hl, h3⟩
      · have : (s.drop a).length = u.length + v.length := by rw [e, List.length_append]
        rw [List.length_drop] at this
        omega
  · rintro (h | ⟨g, h1, h2, h3⟩)
    · exact .run0 hp h
    · have := Mt.run hp h3 ((s.drop a).take (g - a))
      rwa [show s.drop g = (s.drop a).drop (g - a) by rw [List.drop_drop]; congr 1; omega, List.take_append_drop] at this
theorem Inv.run (h : Inv L s i a r f) (hi : i < L.length) (hp : (L.getD i default) 0 = true) : Inv L s (i + 1) a (some i) a := by
  obtain ⟨h1, h2, h3, h4⟩ := h
  refine ⟨hi, h2, Nat.le_refl _, by omega, by omega, fun j h5 h6 => (by omega), ?_⟩
  have hm : Mt (L.drop i) (s.drop a) ↔ Mt (L.drop (i + 1)) (s.drop a) ∨ ∃ g, a < g ∧ g ≤ s.length ∧ Mt (L.drop (i + 1)) (s.drop g) := by
    rw [drop_at hi]; exact mt_run hp
  cases r with
  | none => exact h4.trans hm
  | some k =>
    obtain ⟨h5, h6, h7, h8⟩ := h4
    refine h8.trans ⟨?_, fun h => .inl (hm.2 h)⟩
    rintro (h | ⟨g, h9, h10, h11⟩)
    · exact hm.1 h
    · obtain ⟨q1, q2⟩ := seg_split (m := i - (k + 1)) h7 (by omega) h11
      rw [List.length_drop] at q1
      rw [show k + 1 + (i - (k + 1)) = i by omega, List.drop_drop, drop_at hi] at q2
      refine hm.1 ?_
      rw [drop_at hi]
      rcases (mt_run hp).1 q2 with q2 | ⟨g', q3, q4, q5⟩
      · exact (mt_run hp).2 (.inr ⟨_, by omega, by omega, q2⟩)
      · exact (mt_run hp).2 (.inr ⟨g', by omega, q4, q5⟩)
theorem Inv.step (h : Inv L s i a r f) (hi : i < L.length) (ha : a < s.length) (hp : (L.getD i default) 0 = false) (hc : (L.getD i default) (0 + 1 + (s.getD a 0).toNat) = true) : Inv L s (i + 1) (a + 1) r f := by
  obtain ⟨h1, h2, h3, h4⟩ := h
  have hm : Mt (L.drop i) (s.drop a) ↔ Mt (L.drop (i + 1)) (s.drop (a + 1)) := by
    rw [drop_at hi, @drop_at UInt8 ⟨0⟩ _ _ ha]
    constructor
    · intro h
      obtain ⟨c, t, e, _, h5⟩ := h.one_inv hp
      obtain ⟨_, rfl⟩ := List.cons.inj e
      exact h5
    · exact .one hp hc
  refine ⟨hi, ha, by omega, ?_⟩
  cases r with
  | none => exact h4.trans hm
  | some k =>
    obtain ⟨h5, h6, h7, h8⟩ := h4
    refine ⟨by omega, by omega, fun j h9 h10 => ?_, h8.trans (or_congr hm Iff.rfl)⟩
    by_cases e : j = i
    · rw [e]; exact hp
    · exact h7 j h9 (by omega)
theorem Inv.stuck (h : Inv L s i a r f) (ha : a < s.length) (hno : ¬ (i < L.length ∧ (L.getD i default) 0 = true)) (hno2 : ¬ (i < L.length ∧ (L.getD i default) (0 + 1 + (s.getD a 0).toNat) = true)) : ¬ Mt (L.drop i) (s.drop a) := by
  intro hm
  rw [@drop_at UInt8 ⟨0⟩ _ _ ha] at hm
  by_cases hi : i < L.length
  · rw [drop_at hi] at hm
    cases hp : (L.getD i default) 0 with
    | true => exact hno ⟨hi, hp⟩
    | false =>
      obtain ⟨c, t, e, h5, _⟩ := hm.one_inv hp
      obtain ⟨rfl, _⟩ := List.cons.inj e
      exact hno2 ⟨hi, h5⟩
  · rw [List.drop_eq_nil_of_le (by omega)] at hm
    cases hm.nil_inv
theorem Inv.back {k : Nat} (h : Inv L s i a (some k) f) (ha : a < s.length) (hno : ¬ Mt (L.drop i) (s.drop a)) : Inv L s (k + 1) (f + 1) (some k) (f + 1) := by
  obtain ⟨h1, h2, h3, h5, h6, h7, h8⟩ := h
  refine ⟨by omega, by omega, Nat.le_refl _, by omega, by omega, fun j _ _ => (by omega), h8.trans ⟨?_, ?_⟩⟩
  · rintro (h | ⟨g, h9, h10, h11⟩)
    · exact absurd h hno
    · by_cases e : g = f + 1
      · rw [e] at h11; exact .inl h11
      · exact .inr ⟨g, by omega, h10, h11⟩
  · rintro (h | ⟨g, h9, h10, h11⟩)
    · exact .inr ⟨f + 1, by omega, by omega, h⟩
    · exact .inr ⟨g, by omega, h10, h11⟩
theorem Inv.over (h : Inv L s i s.length r f) : (Mt L s ↔ Mt (L.drop i) []) := by
  obtain ⟨h1, h2, h3, h4⟩ := h
  rw [List.drop_length] at h4
  cases r with
  | none => exact h4
  | some k =>
    obtain ⟨h5, h6, h7, h8⟩ := h4
    refine h8.trans ⟨?_, .inl⟩
    rintro (h | ⟨g, h9, h10, h11⟩)
    · exact h
    · obtain ⟨q1, _⟩ := seg_split (m := i - (k + 1)) h7 (by omega) h11
      rw [List.length_drop] at q1
      omega
theorem mt_nil (hi : i < L.length) (hp : (L.getD i default) 0 = true) : Mt (L.drop i) [] ↔ Mt (L.drop (i + 1)) [] := by
  rw [drop_at hi]
  refine ⟨fun h => ?_, .run0 hp⟩
  obtain ⟨u, v, e, h3⟩ := h.run_inv rfl hp
  obtain ⟨_, rfl⟩ := List.append_eq_nil_iff.1 e.symm
  exact h3
theorem mt_end (hi : i ≤ L.length) (hno : ¬ (i < L.length ∧ (L.getD i default) 0 = true)) : Mt (L.drop i) [] ↔ i = L.length := by
  constructor
  · intro h
    by_cases e : i < L.length
    · rw [drop_at e] at h
      cases hp : (L.getD i default) 0 with
      | true => exact absurd ⟨e, hp⟩ hno
      | false =>
        obtain ⟨c, t, e, _⟩ := h.one_inv hp
        cases e
    · omega
  · intro e
    rw [e, List.drop_length]; exact .nil
/-- whether the parts are of the bytes -/
noncomputable def mtB (L : List Pt) (s : List UInt8) : Bool := @decide (Mt L s) (Classical.propDecidable _)
theorem mtB_true {L : List Pt} {s : List UInt8} : mtB L s = true ↔ Mt L s := @decide_eq_true_iff _ (Classical.propDecidable _)
theorem mtB_false {L : List Pt} {s : List UInt8} : mtB L s = false ↔ ¬ Mt L s := @decide_eq_false_iff_not _ (Classical.propDecidable _)

/-! the parts of bytes -/
def anyF (k : Nat) : Nat → Bool := fun i => decide (1 ≤ i ∧ i < 1 + k)
def oneP (b : UInt8) : Nat → Bool := upd noP (0 + 1 + b.toNat) true
def runP : Nat → Bool := upd noP 0 true
/-- with the bytes from c on, below k -/
def addN (p : Pt) (c k : Nat) : Pt := fun j => p j || decide (1 + c ≤ j ∧ j < 1 + k)
def flipP (p : Pt) (nb : Bool) (k : Nat) : Pt := fun j => if 1 ≤ j ∧ j < 1 + k then (p j != nb) else p j
def okB (c : UInt8) : Bool := decide (¬ c = 93 ∧ ¬ c = 92)
def plainB : List UInt8 → Bool
  | [] => false
  | c :: _ => okB c
/-- do bytes begin with a - and one that may end a range? -/
def isRng : List UInt8 → Bool
  | c :: t => decide (c = 45) && plainB t
  | [] => false
inductive SetGo : Pt → List UInt8 → Pt → List UInt8 → Prop where
  | stop {p : Pt} {rest : List UInt8} : SetGo p (93 :: rest) p rest
  | one {p p' : Pt} {c : UInt8} {t rest : List UInt8} : okB c = true → isRng t = false → SetGo (addN p c.toNat (c.toNat + 1)) t p' rest → SetGo p (c :: t) p' rest
  | rng {p p' : Pt} {c d : UInt8} {t rest : List UInt8} : okB c = true → okB d = true → c.toNat ≤ d.toNat → SetGo (addN p c.toNat (d.toNat + 1)) t p' rest → SetGo p (c :: 45 :: d :: t) p' rest
theorem SetGo.app {p p' : Pt} {s rest : List UInt8} (h : SetGo p s p' rest) (b : List UInt8) : SetGo p (s ++ b) p' (rest ++ b) := by
  induction h with
  | stop => exact .stop
  | @one p p' c t rest h1 h2 h3 ih =>
    refine .one h1 ?_ ih
    cases h3 with
    | stop => rfl
    | @one _ _ c' t' _ h4 h5 h6 =>
      cases t' with
      | nil => cases h6
      | cons d t' => exact h2
    | rng h4 h5 h6 h7 => exact h2
  | rng h1 h2 h3 h4 ih => exact .rng h1 h2 h3 ih
inductive SetOk : List UInt8 → Pt → List UInt8 → Prop where
  | yes {c : UInt8} {t : List UInt8} {q : Pt} {rest : List UInt8} : ¬ c = 94 → ¬ c = 93 → SetGo noP (c :: t) q rest → SetOk (c :: t) (flipP q false 256) rest
  | no {c : UInt8} {t : List UInt8} {q : Pt} {rest : List UInt8} : ¬ c = 93 → SetGo noP (c :: t) q rest → SetOk (94 :: c :: t) (flipP q true 256) rest
theorem SetOk.app {p : Pt} {s rest : List UInt8} (h : SetOk s p rest) (b : List UInt8) : SetOk (s ++ b) p (rest ++ b) := by
  cases h with
  | yes h1 h2 h3 => exact .yes h1 h2 (h3.app b)
  | no h1 h2 => exact .no h1 (h2.app b)
theorem SetGo.short {p p' : Pt} {s rest : List UInt8} (h : SetGo p s p' rest) : rest.length < s.length := by
  induction h with
  | stop => simp
  | one h1 h2 h3 ih => simp only [List.length_cons]; omega
  | rng h1 h2 h3 h4 ih => simp only [List.length_cons]; omega
theorem SetOk.short {p : Pt} {s rest : List UInt8} (h : SetOk s p rest) : rest.length < s.length := by
  cases h with
  | yes h1 h2 h3 => exact h3.short
  | no h1 h2 => have := h2.short; simp only [List.length_cons] at *; omega
inductive Toks : List UInt8 → List Pt → Prop where
  | nil : Toks [] []
  | any {t : List UInt8} {l : List Pt} : Toks t l → Toks (63 :: t) (anyF 256 :: l)
  | run {t : List UInt8} {l : List Pt} : Toks t l → Toks (42 :: t) (runP :: l)
  | set {s t : List UInt8} {p : Pt} {l : List Pt} : SetOk s p t → Toks t l → Toks (91 :: s) (p :: l)
  | lit {c : UInt8} {t : List UInt8} {l : List Pt} : ¬ c = 63 → ¬ c = 42 → ¬ c = 91 → ¬ c = 92 → Toks t l → Toks (c :: t) (oneP c :: l)
theorem Toks.app {a b : List UInt8} {l m : List Pt} (h : Toks a l) (k : Toks b m) : Toks (a ++ b) (l ++ m) := by
  induction h with
  | nil => exact k
  | any h ih => exact .any ih
  | run h ih => exact .run ih
  | set h1 h2 ih => exact .set (h1.app b) ih
  | lit h1 h2 h3 h4 h5 ih => exact .lit h1 h2 h3 h4 ih
theorem Toks.len {a : List UInt8} {l : List Pt} (h : Toks a l) : l.length ≤ a.length := by
  induction h with
  | nil => exact Nat.le_refl _
  | any h ih => simpa using ih
  | run h ih => simpa using ih
  | set h1 h2 ih => have := h1.short; simp only [List.length_cons]; omega
  | lit h1 h2 h3 h4 h5 ih => simpa using ih
end glob
end Go.Proofs.Ytmkojbeongiimaa
