/-
  PLAIN LAW of packthreadkeep.FetchAll: a file that is served in whatever order and pieces is fetched, in so many steps. No program in sight.
-/
import Derived.Test.YtmceappjldcbmaaGreatDoorFetchQ
namespace Go.Proofs.YtmceappjldcbmaaGreatDoor
set_option linter.unusedVariables false
set_option linter.unusedSimpArgs false
namespace fetch
/-- a reply of who serves the file S -/
structure Rep (S : List UInt8) (w : Wa) (d : List UInt8) : Prop where
  no : (S.length : Int) ≤ w.1 → d = []
  yes : w.1 < (S.length : Int) → 1 ≤ d.length ∧ (d.length : Int) ≤ min w.2 (S.length - w.1) ∧ min w.2 (S.length - w.1) ≤ 2 * (d.length : Int) ∧ d = (S.drop w.1.toNat).take d.length
structure FI (S : List UInt8) (f : Fe) : Prop where
  ok : FOk f
  c : ∀ x ∈ f.out, x.2 ≤ 100 ∧ x.1 + x.2 ≤ f.front
  dis : f.out.Pairwise (fun x y => x.1 + x.2 ≤ y.1 ∨ y.1 + y.2 ≤ x.1)
  cov : ∀ p : Nat, (p : Int) < f.front → (∃ x ∈ f.out, x.1 ≤ (p : Int) ∧ (p : Int) < x.1 + x.2) ∨ (p < S.length ∧ p < f.data.length ∧ f.data.getD p default = S.getD p default) ∨ (S.length ≤ p ∧ 0 ≤ f.end_ ∧ f.end_ ≤ (p : Int))
  en : f.end_ = -1 ∨ ((S.length : Int) ≤ f.end_ ∧ f.end_ < f.front)
theorem FI.ask {S : List UInt8} {f : Fe} (k : FI S f) (h : asks f = true) : FI S (ask1 f) := by
  refine ⟨k.ok.ask h, fun x hx => ?_, ?_, fun p hp => ?_, ?_⟩
  · rcases List.mem_append.1 hx with hx | hx
    · have := k.c x hx
      exact ⟨this.1, by simp only [ask1]; omega⟩
    · obtain rfl := List.mem_singleton.1 hx
      exact ⟨by simp, by simp only [ask1]; omega⟩
  · refine List.pairwise_append.2 ⟨k.dis, List.pairwise_singleton _ _, fun x hx y hy => ?_⟩
    obtain rfl := List.mem_singleton.1 hy
    exact .inl (k.c x hx).2
  · simp only [ask1] at hp ⊢
    by_cases h1 : (p : Int) < f.front
    · rcases k.cov p h1 with ⟨x, hx, h2⟩ | h2
      · exact .inl ⟨x, List.mem_append_left _ hx, h2⟩
      · exact .inr h2
    · exact .inl ⟨(f.front, 100), by simp, by simp only; omega, by simp only; omega⟩
  · rcases k.en with e | e
    · exact .inl e
    · exact .inr ⟨e.1, by simp only [ask1]; omega⟩
theorem FI.more {S : List UInt8} : ∀ (k : Nat) (f : Fe) (l : List Wa), FI S f → FI S (fetch.more k f l).1
  | 0, _, _, h => h
  | k + 1, f, l, h => by
    unfold fetch.more
    split
    · rename_i c; exact FI.more k _ _ (h.ask c)
    · exact h
theorem FI.new (S : List UInt8) : FI S newF := ⟨FOk.new, fun x hx => (nomatch hx), List.Pairwise.nil, fun p hp => by simp only [newF] at hp; omega, .inl rfl⟩
theorem more_out : ∀ (k : Nat) (f : Fe) (l : List Wa), ∃ X, (more k f l).1.out = f.out ++ X ∧ (more k f l).2 = l ++ X
  | 0, f, l => ⟨[], by simp [more], by simp [more]⟩
  | k + 1, f, l => by
    unfold more
    split
    · obtain ⟨X, h1, h2⟩ := more_out k (ask1 f) (l ++ [(f.front, 100)])
      exact ⟨(f.front, 100) :: X, by rw [h1]; simp [ask1], by rw [h2]; simp⟩
    · exact ⟨[], by simp, by simp⟩
theorem split_at {α : Type} [Inhabited α] (l : List α) (k : Nat) (h : k < l.length) : l = l.take k ++ l.getD k default :: l.drop (k + 1) := by
  rw [List.getD_eq_getElem?_getD, List.getElem?_eq_getElem h]
  conv => lhs; rw [← List.take_append_drop k l, List.drop_eq_getElem_cons h]
  rfl
theorem mem_erase {l : List Wa} {k : Nat} (h : k < l.length) {x : Wa} (hx : x ∈ l) : x ∈ l.eraseIdx k ∨ x = l.getD k default := by
  rw [List.eraseIdx_eq_take_drop_succ]
  rw [split_at l k h] at hx
  rcases List.mem_append.1 hx with hx | hx
  · exact .inl (List.mem_append_left _ hx)
  · rcases List.mem_cons.1 hx with hx | hx
    · exact .inr hx
    · exact .inl (List.mem_append_right _ hx)
/-- wants are each another one -/
theorem idx_own {S : List UInt8} {f : Fe} (k : FI S f) (i : Nat) (hi : i < f.out.length) : idx f.out (f.out.getD i default) = i := by
  have hj : ∀ j, j < i → ¬ f.out.getD i default = f.out.getD j default := by
    intro j hj he
    have hd := List.pairwise_iff_getElem.1 k.dis j i (by omega) hi hj
    have e1 : f.out.getD i default = f.out[i] := by rw [List.getD_eq_getElem?_getD, List.getElem?_eq_getElem hi]; rfl
    have e2 : f.out.getD j default = f.out[j]'(by omega) := by rw [List.getD_eq_getElem?_getD, List.getElem?_eq_getElem (by omega)]; rfl
    rw [e1, e2] at he
    rw [← he] at hd
    have := k.ok.w _ (List.getElem_mem hi)
    omega
  unfold idx
  refine Nat.le_antisymm ?_ ?_
  · apply Classical.byContradiction
    intro hc
    have := List.not_of_lt_findIdx (Nat.lt_of_not_le hc)
    have e1 : f.out.getD i default = f.out[i] := by rw [List.getD_eq_getElem?_getD, List.getElem?_eq_getElem hi]; rfl
    rw [← e1] at this
    simp at this
  · apply Classical.byContradiction
    intro hc
    have hlt : f.out.findIdx (fun x => decide (f.out.getD i default = x)) < f.out.length := by omega
    have h2 := List.findIdx_getElem (w := hlt)
    have e1 : f.out.getD (f.out.findIdx (fun x => decide (f.out.getD i default = x))) default = f.out[f.out.findIdx (fun x => decide (f.out.getD i default = x))] := by rw [List.getD_eq_getElem?_getD, List.getElem?_eq_getElem hlt]; rfl
    rw [← e1] at h2
    exact hj _ (Nat.lt_of_not_le hc) (of_decide_eq_true h2)
theorem put_at (d : List UInt8) (a : Nat) (b : List UInt8) (p : Nat) : (put d a b).getD p default = if a ≤ p ∧ p < a + b.length then b.getD (p - a) default else (ext d (a + b.length)).getD p default := by
  have hl := ext_len d (a + b.length)
  unfold put
  by_cases h1 : p < a
  · rw [if_neg (by omega), List.getD_eq_getElem?_getD, List.append_assoc, List.getElem?_append_left (by rw [List.length_take]; omega), List.getElem?_take, if_pos h1, ← List.getD_eq_getElem?_getD]
  · by_cases h2 : p < a + b.length
    · rw [if_pos ⟨by omega, h2⟩, List.getD_eq_getElem?_getD, List.getElem?_append_left (by simp only [List.length_append, List.length_take]; omega), List.getElem?_append_right (by rw [List.length_take]; omega), List.length_take, Nat.min_eq_left (by omega), ← List.getD_eq_getElem?_getD]
    · rw [if_neg (by omega), List.getD_eq_getElem?_getD, List.getElem?_append_right (by simp only [List.length_append, List.length_take]; omega), List.getElem?_drop]
      simp only [List.length_append, List.length_take]
      rw [show a + b.length + (p - (min a (ext d (a + b.length)).length + b.length)) = p by omega, ← List.getD_eq_getElem?_getD]
theorem ext_at (d : List UInt8) (m p : Nat) (h : p < d.length) : (ext d m).getD p default = d.getD p default := by
  unfold ext
  rw [List.getD_eq_getElem?_getD, List.getElem?_append_left h, ← List.getD_eq_getElem?_getD]
theorem cut_at (S : List UInt8) (a m q : Nat) (h : q < m) : ((S.drop a).take m).getD q default = S.getD (a + q) default := by
  rw [List.getD_eq_getElem?_getD, List.getElem?_take, if_pos h, List.getElem?_drop, ← List.getD_eq_getElem?_getD]
theorem FI.mid {S : List UInt8} {f : Fe} (k : FI S f) {i : Nat} (hi : i < f.out.length) {d : List UInt8} (hr : Rep S (f.out.getD i default) d) :
    FI S (midF f ⟨(f.out.getD i default).1, (f.out.getD i default).2, d⟩).1 ∧ (midF f ⟨(f.out.getD i default).1, (f.out.getD i default).2, d⟩).1.out = f.out.eraseIdx i ++ (midF f ⟨(f.out.getD i default).1, (f.out.getD i default).2, d⟩).2 := by
  have hix : idx f.out ((f.out.getD i default).1, (f.out.getD i default).2) = i := idx_own k i hi
  have hin : f.out.getD i default ∈ f.out := by
    rw [List.getD_eq_getElem?_getD, List.getElem?_eq_getElem hi]; exact List.getElem_mem _
  have hw := k.ok.w _ hin
  have hc := k.c _ hin
  have hdc : ¬ (f.out.getD i default).2 < (d.length : Int) := by
    by_cases h : (S.length : Int) ≤ (f.out.getD i default).1
    · have h0 := hr.no h
      rw [h0]
      show ¬ _ < ((0 : Nat) : Int)
      omega
    · have := hr.yes (by omega); omega
  have hok := k.ok.mid (g := ⟨(f.out.getD i default).1, (f.out.getD i default).2, d⟩) (by simp only; rw [hix]; exact hi) hdc
  obtain ⟨a, ha⟩ : ∃ a : Nat, (f.out.getD i default).1 = (a : Int) := ⟨(f.out.getD i default).1.toNat, by omega⟩
  have hpair : (f.out.eraseIdx i).Pairwise (fun x y => x.1 + x.2 ≤ y.1 ∨ y.1 + y.2 ≤ x.1) := k.dis.sublist (List.eraseIdx_sublist _ _)
  have hother : ∀ x ∈ f.out.eraseIdx i, x.1 + x.2 ≤ (a : Int) ∨ (a : Int) + (f.out.getD i default).2 ≤ x.1 := by
    intro x hx
    have hd := k.dis
    rw [split_at f.out i hi] at hd
    rw [List.eraseIdx_eq_take_drop_succ] at hx
    obtain ⟨_, h2, h3⟩ := List.pairwise_append.1 hd
    rcases List.mem_append.1 hx with hx | hx
    · have := h3 x hx _ (List.mem_cons_self ..)
      omega
    · have := (List.pairwise_cons.1 h2).1 x hx
      omega
  have hdata : ∀ p : Nat, p < S.length → (a ≤ p ∧ p < a + d.length) ∨ (p < f.data.length ∧ f.data.getD p default = S.getD p default) → p < (put f.data a d).length ∧ (put f.data a d).getD p default = S.getD p default := by
    intro p hp h
    rw [put_len, put_at]
    by_cases c : a ≤ p ∧ p < a + d.length
    · rw [if_pos c]
      refine ⟨by omega, ?_⟩
      have hy := hr.yes (by omega)
      rw [hy.2.2.2, ha, Int.toNat_natCast, cut_at _ _ _ _ (by omega), show a + (p - a) = p by omega]
    · rw [if_neg c]
      rcases h with h | h
      · exact absurd h c
      · exact ⟨by omega, by rw [ext_at _ _ _ h.1]; exact h.2⟩
  unfold midF at hok ⊢
  simp only [ha] at hix hok ⊢
  rw [hix] at hok ⊢
  rw [Int.toNat_natCast] at hok ⊢
  have hce : ∀ x ∈ f.out.eraseIdx i, x.2 ≤ 100 ∧ x.1 + x.2 ≤ f.front := fun x hx => k.c x (List.mem_of_mem_eraseIdx hx)
  rw [ha] at hw hc
  by_cases c1 : d.length = 0 ∧ (f.end_ < 0 ∨ (a : Int) < f.end_)
  · rw [if_pos c1] at hok ⊢
    have hge : (S.length : Int) ≤ (a : Int) := by
      apply Classical.byContradiction
      intro hn
      have := hr.yes (by omega)
      omega
    refine ⟨⟨hok, hce, hpair, fun p hp => ?_, .inr ⟨hge, by simp only; omega⟩⟩, by simp⟩
    simp only at hp ⊢
    rcases k.cov p hp with ⟨x, hx, h2, h3⟩ | h | h
    · rcases mem_erase hi hx with hx | rfl
      · exact .inl ⟨x, hx, h2, h3⟩
      · exact .inr (.inr ⟨by omega, by omega, by omega⟩)
    · obtain ⟨u1, u2⟩ := hdata p h.1 (.inr h.2)
      exact .inr (.inl ⟨h.1, u1, u2⟩)
    · exact .inr (.inr ⟨h.1, by omega, by omega⟩)
  · rw [if_neg c1] at hok ⊢
    by_cases c2 : 0 < d.length ∧ (d.length : Int) < (f.out.getD i default).2
    · rw [if_pos c2] at hok ⊢
      have hlt : (a : Int) < S.length := by
        apply Classical.byContradiction
        intro hn
        have := hr.no (by omega)
        rw [this] at c2; simp at c2
      have hy := hr.yes (by omega)
      refine ⟨⟨hok, fun x hx => ?_, List.pairwise_append.2 ⟨hpair, List.pairwise_singleton _ _, fun x hx y hy => ?_⟩, fun p hp => ?_, k.en⟩, rfl⟩
      · rcases List.mem_append.1 hx with hx | hx
        · exact hce x hx
        · obtain rfl := List.mem_singleton.1 hx
          exact ⟨by simp only; omega, by simp only; omega⟩
      · obtain rfl := List.mem_singleton.1 hy
        have := hother x hx
        simp only; omega
      · simp only at hp ⊢
        rcases k.cov p hp with ⟨x, hx, h2, h3⟩ | h | h
        · rcases mem_erase hi hx with hx | rfl
          · exact .inl ⟨x, List.mem_append_left _ hx, h2, h3⟩
          · by_cases hq : p < a + d.length
            · obtain ⟨u1, u2⟩ := hdata p (by omega) (.inl ⟨by omega, hq⟩)
              exact .inr (.inl ⟨by omega, u1, u2⟩)
            · exact .inl ⟨_, List.mem_append_right _ (List.mem_singleton.2 rfl), by simp only; omega, by simp only; omega⟩
        · obtain ⟨u1, u2⟩ := hdata p h.1 (.inr h.2)
          exact .inr (.inl ⟨h.1, u1, u2⟩)
        · exact .inr (.inr h)
    · rw [if_neg c2] at hok ⊢
      refine ⟨⟨hok, hce, hpair, fun p hp => ?_, k.en⟩, by simp⟩
      simp only at hp ⊢
      rcases k.cov p hp with ⟨x, hx, h2, h3⟩ | h | h
      · rcases mem_erase hi hx with hx | rfl
        · exact .inl ⟨x, hx, h2, h3⟩
        · by_cases hz : d.length = 0
          · have hge : (S.length : Int) ≤ (a : Int) := by
              apply Classical.byContradiction
              intro hn
              have := hr.yes (by omega)
              omega
            exact .inr (.inr ⟨by omega, by omega, by omega⟩)
          · have hlt : (a : Int) < S.length := by
              apply Classical.byContradiction
              intro hn
              have := hr.no (by omega)
              rw [this] at hz; simp at hz
            have hy := hr.yes (by omega)
            obtain ⟨u1, u2⟩ := hdata p (by omega) (.inl ⟨by omega, by omega⟩)
            exact .inr (.inl ⟨by omega, u1, u2⟩)
      · obtain ⟨u1, u2⟩ := hdata p h.1 (.inr h.2)
        exact .inr (.inl ⟨h.1, u1, u2⟩)
      · exact .inr (.inr h)
/-- how many bits -/
def Lf : Nat → Nat → Nat
  | 0, _ => 0
  | k + 1, m => if m = 0 then 0 else 1 + Lf k (m / 2)
theorem Lf_mono : ∀ (k m m' : Nat), m ≤ m' → Lf k m ≤ Lf k m'
  | 0, _, _, _ => Nat.le_refl _
  | k + 1, m, m', h => by
    unfold Lf
    split
    · exact Nat.zero_le _
    · rw [if_neg (by omega)]
      have := Lf_mono k (m / 2) (m' / 2) (by omega)
      omega
theorem Lf_half : ∀ m, m < 101 → m = 0 ∨ Lf 7 (m / 2) + 1 ≤ Lf 7 m := by decide
theorem Lf_le : ∀ k m, Lf k m ≤ k
  | 0, _ => Nat.le_refl _
  | k + 1, m => by
    unfold Lf
    have := Lf_le k (m / 2)
    split <;> omega
/-- how many replies a want may take -/
def pot (n : Nat) (w : Wa) : Nat := if (n : Int) ≤ w.1 then 1 else Lf 7 (min w.2 (n - w.1)).toNat + if w.2 ≤ (n : Int) - w.1 then 0 else 1
def pots (n : Nat) : List Wa → Nat
  | [] => 0
  | w :: t => pot n w + pots n t
theorem pots_app (n : Nat) : ∀ l m : List Wa, pots n (l ++ m) = pots n l + pots n m
  | [], m => by simp [pots]
  | w :: t, m => by simp only [List.cons_append, pots, pots_app n t m]; omega
theorem pot_le (n : Nat) (w : Wa) : pot n w ≤ 8 := by
  unfold pot
  have := Lf_le 7 (min w.2 ((n : Int) - w.1)).toNat
  split
  · omega
  · split <;> omega
def Phi (n : Nat) (f : Fe) : Nat := pots n f.out + 8 * ((2148 - f.front) / 100).toNat
theorem Phi_more (n : Nat) : ∀ (k : Nat) (f : Fe) (l : List Wa), FOk f → Phi n (more k f l).1 ≤ Phi n f
  | 0, _, _, _ => Nat.le_refl _
  | k + 1, f, l, h => by
    unfold more
    split
    · rename_i c
      have ih := Phi_more n k (ask1 f) (l ++ [(f.front, 100)]) (h.ask c)
      refine Nat.le_trans ih ?_
      obtain ⟨_, a2, _⟩ := (asks_iff f).1 c
      have hf := h.f0
      unfold Phi
      simp only [ask1, pots_app, pots]
      have := pot_le n (f.front, 100)
      omega
    · exact Nat.le_refl _
theorem pots_erase (n : Nat) (l : List Wa) (i : Nat) (h : i < l.length) : pots n l = pots n (l.eraseIdx i) + pot n (l.getD i default) := by
  conv => lhs; rw [split_at l i h]
  rw [List.eraseIdx_eq_take_drop_succ, pots_app, pots_app]
  simp only [pots]; omega
theorem Phi_mid {S : List UInt8} {f : Fe} (k : FI S f) {i : Nat} (hi : i < f.out.length) {d : List UInt8} (hr : Rep S (f.out.getD i default) d) :
    Phi S.length (midF f ⟨(f.out.getD i default).1, (f.out.getD i default).2, d⟩).1 < Phi S.length f := by
  have hix : idx f.out ((f.out.getD i default).1, (f.out.getD i default).2) = i := idx_own k i hi
  have hin : f.out.getD i default ∈ f.out := by
    rw [List.getD_eq_getElem?_getD, List.getElem?_eq_getElem hi]; exact List.getElem_mem _
  have hw := k.ok.w _ hin
  have hc := k.c _ hin
  have hpe := pots_erase S.length f.out i hi
  have hpos : 1 ≤ pot S.length (f.out.getD i default) := by
    unfold pot
    by_cases h : (S.length : Int) ≤ (f.out.getD i default).1
    · rw [if_pos h]; exact Nat.le_refl _
    · rw [if_neg h]
      have : 1 ≤ Lf 7 (min (f.out.getD i default).2 ((S.length : Int) - (f.out.getD i default).1)).toNat := by
        have h1 : Lf 7 1 ≤ Lf 7 (min (f.out.getD i default).2 ((S.length : Int) - (f.out.getD i default).1)).toNat := Lf_mono 7 _ _ (by omega)
        exact h1
      omega
  unfold midF
  simp only
  rw [hix]
  split
  · unfold Phi; simp only; omega
  · split
    · rename_i c1 c2
      have hlt : (f.out.getD i default).1 < (S.length : Int) := by
        apply Classical.byContradiction
        intro hn
        have := hr.no (by omega)
        rw [this] at c2; simp at c2
      obtain ⟨y1, y2, y3, y4⟩ := hr.yes hlt
      have hlt2 : pot S.length ((f.out.getD i default).1 + (d.length : Int), (f.out.getD i default).2 - (d.length : Int)) < pot S.length (f.out.getD i default) := by
        generalize f.out.getD i default = w at *
        obtain ⟨a, c⟩ := w
        simp only at hw hc c1 c2 hlt y1 y2 y3 y4 hpos ⊢
        unfold pot at hpos ⊢
        simp only at hpos ⊢
        rw [if_neg (show ¬ (S.length : Int) ≤ a by omega)] at hpos ⊢
        obtain ⟨m, hm⟩ : ∃ m : Nat, min c ((S.length : Int) - a) = (m : Int) := ⟨(min c ((S.length : Int) - a)).toNat, by omega⟩
        rw [hm, Int.toNat_natCast] at hpos ⊢
        have hh := (Lf_half m (by omega)).resolve_left (by omega)
        by_cases e : (S.length : Int) ≤ a + d.length
        · rw [if_pos e]
          have : 1 ≤ Lf 7 m := by omega
          rw [if_neg (by omega)]
          omega
        · rw [if_neg e]
          have hmn : (min (c - (d.length : Int)) ((S.length : Int) - (a + (d.length : Int)))).toNat = m - d.length := by omega
          rw [hmn]
          have hmo := Lf_mono 7 (m - d.length) (m / 2) (by omega)
          by_cases e2 : c ≤ (S.length : Int) - a
          · rw [if_pos e2, if_pos (by omega)]; omega
          · rw [if_neg e2, if_neg (by omega)]; omega
      unfold Phi
      simp only [pots_app, pots]
      omega
    · unfold Phi; simp only; omega
structure Step (S : List UInt8) (f : Fe) (i : Nat) (d : List UInt8) (f' : Fe) (t : Ne) : Prop where
  inv : FI S f'
  out : f'.out = f.out.eraseIdx i ++ t.wants
  code : t.code = 0
  phi : Phi S.length f' < Phi S.length f
  stop : asks f' = false
  done : t.done = fin f'
  data : t.done = true → t.data = f'.data.take (min f'.end_ (f'.data.length : Int)).toNat
theorem more_stop (f : Fe) (l : List Wa) : asks (more 6 f l).1 = false := more_len 6 f l (by omega)
theorem FI.step {S : List UInt8} {f : Fe} (k : FI S f) {i : Nat} (hi : i < f.out.length) {d : List UInt8} (hr : Rep S (f.out.getD i default) d) :
    Step S f i d (gotF f ⟨(f.out.getD i default).1, (f.out.getD i default).2, d⟩).1 (gotF f ⟨(f.out.getD i default).1, (f.out.getD i default).2, d⟩).2 := by
  have hix : idx f.out ((f.out.getD i default).1, (f.out.getD i default).2) = i := idx_own k i hi
  have hin : f.out.getD i default ∈ f.out := by
    rw [List.getD_eq_getElem?_getD, List.getElem?_eq_getElem hi]; exact List.getElem_mem _
  have hw := k.ok.w _ hin
  have hdc : ¬ (f.out.getD i default).2 < (d.length : Int) := by
    by_cases h : (S.length : Int) ≤ (f.out.getD i default).1
    · have h0 := hr.no h
      rw [h0]
      show ¬ _ < ((0 : Nat) : Int)
      omega
    · have := hr.yes (by omega); omega
  have hg : gotF f ⟨(f.out.getD i default).1, (f.out.getD i default).2, d⟩ = onF (midF f ⟨(f.out.getD i default).1, (f.out.getD i default).2, d⟩).1 (midF f ⟨(f.out.getD i default).1, (f.out.getD i default).2, d⟩).2 := by
    unfold gotF
    rw [if_neg (by simp only; rw [hix]; omega), if_neg hdc]
  obtain ⟨hm, hmo⟩ := k.mid hi hr
  have hph := Phi_mid k hi hr
  rw [hg]
  generalize midF f ⟨(f.out.getD i default).1, (f.out.getD i default).2, d⟩ = m at *
  obtain ⟨X, h1, h2⟩ := more_out 6 m.1 m.2
  refine ⟨FI.more 6 _ _ hm, ?_, rfl, Nat.lt_of_le_of_lt (Phi_more _ 6 _ _ hm.ok) hph, more_stop _ _, rfl, fun h => ?_⟩
  · show (fetch.more 6 m.1 m.2).1.out = _ ++ (fetch.more 6 m.1 m.2).2
    rw [h1, h2, hmo, List.append_assoc]
  · have h' : fin (fetch.more 6 m.1 m.2).1 = true := h
    show (if fin (fetch.more 6 m.1 m.2).1 = true then _ else _) = _
    rw [if_pos h']; rfl
/-- when it is told to be done it is the file -/
theorem FI.file {S : List UInt8} {f : Fe} (k : FI S f) (h : fin f = true) : f.data.take (min f.end_ (f.data.length : Int)).toNat = S := by
  unfold fin at h
  rw [Bool.and_eq_true, decide_eq_true_eq] at h
  obtain ⟨h0, h1⟩ := h
  have hno : ∀ x ∈ f.out, ¬ x.1 < f.end_ := by
    intro x hx hlt
    have : f.out.any (opn f) = true := List.any_eq_true.2 ⟨x, hx, decide_eq_true hlt⟩
    rw [this] at h1; exact nomatch h1
  rcases k.en with e | ⟨e1, e2⟩
  · omega
  have hend : f.end_ = (S.length : Int) := by
    apply Classical.byContradiction
    intro hne
    rcases k.cov S.length (by omega) with ⟨x, hx, x1, x2⟩ | ⟨x1, _⟩ | ⟨_, _, x3⟩
    · exact hno x hx (by omega)
    · omega
    · omega
  have hall : ∀ p : Nat, p < S.length → p < f.data.length ∧ f.data.getD p default = S.getD p default := by
    intro p hp
    rcases k.cov p (by omega) with ⟨x, hx, x1, x2⟩ | x | ⟨x1, _⟩
    · exact absurd (show x.1 < f.end_ by omega) (hno x hx)
    · exact x.2
    · omega
  have hlen : S.length ≤ f.data.length := by
    by_cases hz : S.length = 0
    · omega
    · have := (hall (S.length - 1) (by omega)).1; omega
  rw [hend, show (min (S.length : Int) (f.data.length : Int)).toNat = S.length by omega]
  apply List.ext_getElem
  · rw [List.length_take]; omega
  · intro p h1 h2
    have := (hall p h2).2
    rw [List.getD_eq_getElem?_getD, List.getD_eq_getElem?_getD, List.getElem?_eq_getElem (hall p h2).1, List.getElem?_eq_getElem h2] at this
    rw [List.getElem_take]
    simpa using this
/-- till then something is asked for -/
theorem FI.some {S : List UInt8} {f : Fe} (k : FI S f) (hS : S.length ≤ 900) (h : fin f = false) (ha : asks f = false) : f.out ≠ [] := by
  intro h0
  have hf := k.ok.f0
  have hno : ¬ (f.out.length < 6 ∧ f.front ≤ 2048 ∧ (f.end_ < 0 ∨ f.front < f.end_)) := fun hh => by
    have := (asks_iff f).2 hh
    rw [ha] at this; exact nomatch this
  rw [h0] at hno
  simp only [List.length_nil] at hno
  by_cases he : 0 ≤ f.end_
  · unfold fin at h
    rw [h0, decide_eq_true he] at h
    exact nomatch h
  · rcases k.cov 2048 (by omega) with ⟨x, hx, _⟩ | ⟨x1, _⟩ | ⟨_, x2, _⟩
    · rw [h0] at hx; exact nomatch hx
    · omega
    · exact he x2
theorem first_step (S : List UInt8) : FI S (onF newF []).1 ∧ (onF newF []).1.out = (onF newF []).2.wants ∧ asks (onF newF []).1 = false ∧ fin (onF newF []).1 = false ∧ Phi S.length (onF newF []).1 ≤ 168 := by
  refine ⟨FI.more 6 _ _ (FI.new S), ?_, more_stop _ _, by decide, ?_⟩
  · obtain ⟨X, h1, h2⟩ := more_out 6 newF []
    show (more 6 newF []).1.out = (more 6 newF []).2
    rw [h1, h2]; rfl
  · exact Nat.le_trans (Phi_more _ 6 _ _ FOk.new) (by unfold Phi; simp [newF, pots])
end fetch
end Go.Proofs.YtmceappjldcbmaaGreatDoor
