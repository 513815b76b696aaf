/-
  THE LAWS OF PATTERNS IN PLAIN LEAN: which parts the laws' patterns have, and what they are of. No condition.
-/
import Derived.Test.YtmkojbeongiimaaGlob5
namespace Go.Proofs.Ytmkojbeongiimaa
open glob
set_option linter.unusedVariables false
set_option linter.unusedSimpArgs false

def tokPL : List Pt := [oneP 97, oneP 98, runP, anyF 256, flipP (addN (addN noP 97 98) 98 99) false 256, flipP (addN noP 97 98) true 256, oneP 99, flipP (addN noP 97 100) false 256]
theorem tok_ok : ∀ k, k < 8 → Toks (tokL.getD k default) [tokPL.getD k default]
  | 0, _ => .lit (by decide) (by decide) (by decide) (by decide) .nil
  | 1, _ => .lit (by decide) (by decide) (by decide) (by decide) .nil
  | 2, _ => .run .nil
  | 3, _ => .any .nil
  | 4, _ => .set (.yes (by decide) (by decide) (.one (by decide) (by decide) (.one (by decide) (by decide) .stop))) .nil
  | 5, _ => .set (.no (by decide) (.one (by decide) (by decide) .stop)) .nil
  | 6, _ => .lit (by decide) (by decide) (by decide) (by decide) .nil
  | 7, _ => .set (.yes (by decide) (by decide) (.rng (by decide) (by decide) (by decide) .stop)) .nil
  | k + 8, h => absurd h (by omega)
def patP (zs : List Int) : List Pt := zs.map fun z => tokPL.getD (z % 8).toNat default
theorem pat_toks : ∀ zs : List Int, Toks (pat zs) (patP zs)
  | [] => .nil
  | z :: t => by
    have h1 := Int.emod_nonneg z (show (8 : Int) ≠ 0 by omega)
    have h2 := Int.emod_lt_of_pos z (show (0 : Int) < 8 by omega)
    have h := (tok_ok (z % 8).toNat (by omega)).app (pat_toks t)
    exact h
theorem patP_rev (zs : List Int) : patP zs.reverse = (patP zs).reverse := List.map_reverse

theorem mtB_app {P Q : List Pt} {s : List UInt8} {b : Bool} (h : b = true ↔ ∃ j, j < s.length + 1 ∧ Mt P (s.take j) ∧ Mt Q (s.drop j)) : mtB (P ++ Q) s = b := by
  have e : mtB (P ++ Q) s = true ↔ b = true := by
    rw [mtB_true, h]
    constructor
    · intro hm
      obtain ⟨u, v, rfl, h1, h2⟩ := Mt.split hm
      exact ⟨u.length, by rw [List.length_append]; omega, by rw [List.take_left]; exact h1, by rw [List.drop_left]; exact h2⟩
    · rintro ⟨j, _, h1, h2⟩
      rw [← List.take_append_drop j s]
      exact h1.app h2
  cases b <;> simp_all
theorem mtB_rev {L : List Pt} {s : List UInt8} : mtB L s = mtB L.reverse s.reverse := by
  have e : mtB L s = true ↔ mtB L.reverse s.reverse = true := by rw [mtB_true, mtB_true, mt_rev]
  cases h : mtB L.reverse s.reverse <;> cases h' : mtB L s <;> simp_all

/-! letters -/
def isLit (c : UInt8) : Prop := ¬ c = 63 ∧ ¬ c = 42 ∧ ¬ c = 91 ∧ ¬ c = 92
theorem oneP_0 (c : UInt8) : oneP c 0 = false := by
  unfold oneP upd
  rw [if_neg (by omega)]; rfl
theorem oneP_at (c d : UInt8) : oneP c (0 + 1 + d.toNat) = decide (d = c) := by
  unfold oneP upd noP
  by_cases h : d = c
  · subst h; simp
  · rw [if_neg (fun e => h (UInt8.toNat_inj.1 (by omega)))]; simp [h]
theorem lits : ∀ u : List UInt8, (∀ c ∈ u, isLit c) → Toks u (u.map oneP) ∧ Mt (u.map oneP) u
  | [], _ => ⟨.nil, .nil⟩
  | c :: t, h => by
    obtain ⟨h1, h2, h3, h4⟩ := h c (List.mem_cons_self ..)
    obtain ⟨i1, i2⟩ := lits t fun d hd => h d (List.mem_cons_of_mem _ hd)
    exact ⟨.lit h1 h2 h3 h4 i1, .one (oneP_0 c) (by rw [oneP_at]; simp) i2⟩
theorem let_lit : ∀ k, ∀ c ∈ letL.getD k default, isLit c
  | 0 | 1 | 2 | 3 => by unfold isLit; decide
  | k + 4 => by simp [letL, default]
theorem short_lit : ∀ zs : List Int, ∀ c ∈ short zs, isLit c := by
  intro zs c hc
  obtain ⟨z, _, h⟩ := List.mem_flatMap.1 hc
  exact let_lit _ c h
/-- a pattern p of the first a bytes -/
def HolesOk (s p : List UInt8) (a i : Nat) : Prop := a ≤ s.length ∧ p.length ≤ a + i ∧ ∃ L, Toks p L ∧ Mt L (s.take a)
theorem HolesOk.start (s : List UInt8) : HolesOk s [] 0 0 := ⟨Nat.zero_le _, Nat.le_refl _, [], .nil, .nil⟩
theorem HolesOk.step {s p : List UInt8} {a i f t : Nat} (hs : ∀ c ∈ s, isLit c) (h : HolesOk s p a i) (h1 : a ≤ f) (h2 : f ≤ t) (h3 : t ≤ s.length) : HolesOk s (p ++ ((s.drop a).take (f - a) ++ [42])) t (i + 1) := by
  obtain ⟨ha, hp, L, hL, hm⟩ := h
  have hlit := lits ((s.drop a).take (f - a)) fun c hc => hs c (List.mem_of_mem_drop (List.mem_of_mem_take hc))
  refine ⟨h3, ?_, L ++ (((s.drop a).take (f - a)).map oneP ++ [runP]), hL.app (hlit.1.app (.run .nil)), ?_⟩
  · simp only [List.length_append, List.length_take, List.length_drop, List.length_cons, List.length_nil]; omega
  · have e : s.take t = s.take a ++ ((s.drop a).take (f - a) ++ (s.drop f).take (t - f)) := by
      rw [show t = a + ((f - a) + (t - f)) by omega, List.take_add, List.take_add, List.drop_drop, show a + (f - a) = f by omega]
      rw [show a + (f - a + (t - f)) - f = t - f by omega]
    rw [e]
    refine hm.app (hlit.2.app ?_)
    have := Mt.run (p := runP) (ps := []) rfl .nil ((s.drop f).take (t - f))
    rwa [List.append_nil] at this
theorem HolesOk.done {s p : List UInt8} {a i : Nat} (hs : ∀ c ∈ s, isLit c) (h : HolesOk s p a i) : ∃ L, Toks (p ++ s.drop a) L ∧ Mt L s ∧ (p ++ s.drop a).length ≤ s.length + i := by
  obtain ⟨ha, hp, L, hL, hm⟩ := h
  have hlit := lits (s.drop a) fun c hc => hs c (List.mem_of_mem_drop hc)
  refine ⟨L ++ (s.drop a).map oneP, hL.app hlit.1, ?_, ?_⟩
  · have := hm.app hlit.2
    rwa [List.take_append_drop] at this
  · simp only [List.length_append, List.length_drop]; omega
theorem mt_first {L : List Pt} {s : List UInt8} : mtB (oneP 97 :: L) (98 :: s) = false := by
  refine mtB_false.2 fun h => ?_
  obtain ⟨c, t, e, h2, _⟩ := h.one_inv (oneP_0 _)
  obtain ⟨rfl, _⟩ := List.cons.inj e
  rw [oneP_at] at h2
  exact absurd (of_decide_eq_true h2) (by decide)
theorem mt_any {L : List Pt} {s : List UInt8} (h : Mt L s) : mtB (anyF 256 :: L) (98 :: s) = true := mtB_true.2 (.one rfl rfl h)
theorem mt_star {L : List Pt} {s : List UInt8} (h : Mt L s) : mtB (runP :: L) (98 :: s) = true := mtB_true.2 (.run1 rfl (.run0 rfl h))

/-! sets -/
theorem mtB_one {p : Pt} (h0 : p 0 = false) (b : UInt8) : mtB [p] [b] = p (0 + 1 + b.toNat) := by
  cases h : p (0 + 1 + b.toNat) with
  | true => exact mtB_true.2 (.one h0 h .nil)
  | false =>
    refine mtB_false.2 fun hm => ?_
    obtain ⟨c, t, e, h2, _⟩ := hm.one_inv h0
    obtain ⟨rfl, _⟩ := List.cons.inj e
    rw [h] at h2; cases h2
theorem mtB_two {p : Pt} (h0 : p 0 = false) (b : UInt8) : mtB [p] [b, b] = false := by
  refine mtB_false.2 fun hm => ?_
  obtain ⟨c, t, e, _, h3⟩ := hm.one_inv h0
  obtain ⟨_, rfl⟩ := List.cons.inj e
  cases h3.nil_inv
def rngP (f t : UInt8) (nb : Bool) : Pt := flipP (addN noP f.toNat (t.toNat + 1)) nb 256
theorem rngP_0 (f t : UInt8) (nb : Bool) : rngP f t nb 0 = false := by
  unfold rngP flipP
  rw [if_neg (by omega)]
  unfold addN noP
  rw [Bool.false_or, decide_eq_false]; omega
theorem rngP_at (f t b : UInt8) (nb : Bool) : rngP f t nb (0 + 1 + b.toNat) = (decide (f.toNat ≤ b.toNat ∧ b.toNat ≤ t.toNat) != nb) := by
  have := UInt8.toNat_lt b
  unfold rngP flipP
  rw [if_pos (by omega)]
  unfold addN noP
  rw [Bool.false_or]
  congr 1
  exact decide_eq_decide.2 (by omega)
theorem okB_of {c : UInt8} (h1 : ¬ c = 93) (h2 : ¬ c = 92) : okB c = true := decide_eq_true ⟨h1, h2⟩
theorem toks_in {f t : UInt8} (h1 : ¬ f = 93) (h2 : ¬ f = 92) (h3 : ¬ f = 94) (h4 : ¬ t = 93) (h5 : ¬ t = 92) (h : f.toNat ≤ t.toNat) : Toks [91, f, 45, t, 93] [rngP f t false] :=
  .set (.yes h3 h1 (.rng (okB_of h1 h2) (okB_of h4 h5) h .stop)) .nil
theorem toks_out {f t : UInt8} (h1 : ¬ f = 93) (h2 : ¬ f = 92) (h4 : ¬ t = 93) (h5 : ¬ t = 92) (h : f.toNat ≤ t.toNat) : Toks [91, 94, f, 45, t, 93] [rngP f t true] :=
  .set (.no h1 (.rng (okB_of h1 h2) (okB_of h4 h5) h .stop)) .nil
theorem toks_one {f : UInt8} (h1 : ¬ f = 93) (h2 : ¬ f = 92) (h3 : ¬ f = 94) : Toks [91, f, 93] [rngP f f false] :=
  .set (.yes h3 h1 (.one (okB_of h1 h2) rfl .stop)) .nil
end Go.Proofs.Ytmkojbeongiimaa
