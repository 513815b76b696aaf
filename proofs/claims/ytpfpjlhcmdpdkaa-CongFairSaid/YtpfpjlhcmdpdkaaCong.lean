/-
  CONTRACTS of package cong. Conditions: as each theorem names them.
-/
import Derived.Test.YtpfpjlhcmdpdkaaBucket
namespace Go.Proofs.Ytpfpjlhcmdpdkaa
open Go.RowKit
set_option linter.unusedVariables false

namespace cong
/-- a width's cells -/
def wd (x : Int × Int × Int) : List Value := [.int .i64 x.1, .int .i64 x.2.1, .int .i64 x.2.2]
def ack (x : Int × Int × Int) : Int × Int × Int :=
  if x.1 < x.2.1 then (min (x.1 + 1) 64, x.2.1, x.2.2) else if x.1 ≤ x.2.2 + 1 then (min (x.1 + 1) 64, x.2.1, 0) else (x.1, x.2.1, x.2.2 + 1)
def lose (late : Bool) (x : Int × Int × Int) : Int × Int × Int := (if late then 1 else max (x.1 / 2) 2, max (x.1 / 2) 2, 0)
def acks (x : Int × Int × Int) : Nat → Int × Int × Int
  | 0 => x
  | n + 1 => ack (acks x n)
/-- what a width may be -/
structure OK (x : Int × Int × Int) : Prop where
  w1 : 1 ≤ x.1
  w2 : x.1 ≤ 64
  s1 : 2 ≤ x.2.1
  s2 : x.2.1 ≤ 64
  a1 : 0 ≤ x.2.2
  a2 : x.2.2 < x.1
  a3 : x.1 < x.2.1 → x.2.2 = 0
theorem OK.ack {x : Int × Int × Int} (h : OK x) : OK (ack x) := by
  obtain ⟨h1, h2, h3, h4, h5, h6, h7⟩ := h
  unfold cong.ack
  split
  · have := h7 (by assumption)
    exact ⟨by simp only; omega, by simp only; omega, h3, h4, h5, by simp only; omega, fun _ => this⟩
  · split
    · exact ⟨by simp only; omega, by simp only; omega, h3, h4, by simp only; omega, by simp only; omega, fun _ => rfl⟩
    · exact ⟨h1, h2, h3, h4, by simp only; omega, by simp only; omega, fun h => by simp only at h; omega⟩
theorem OK.lose {x : Int × Int × Int} (h : OK x) (late : Bool) : OK (lose late x) := by
  obtain ⟨h1, h2, h3, h4, h5, h6, h7⟩ := h
  cases late
  · exact ⟨by simp only [cong.lose]; simp; omega, by simp only [cong.lose]; simp; omega, by simp only [cong.lose]; omega, by simp only [cong.lose]; omega, Int.le_refl _, by simp only [cong.lose]; simp; omega, fun _ => rfl⟩
  · exact ⟨by simp only [cong.lose]; simp, by simp only [cong.lose]; simp, by simp only [cong.lose]; omega, by simp only [cong.lose]; omega, Int.le_refl _, by simp only [cong.lose]; simp, fun _ => rfl⟩
theorem OK.acks {x : Int × Int × Int} (h : OK x) : ∀ n, OK (acks x n)
  | 0 => h
  | n + 1 => (OK.acks h n).ack

theorem three {w : World} {b : Nat} {t : TypeId} {x : Int × Int × Int} (h : Var w b t (wd x)) :
    w.cell? ⟨b, 0, none⟩ = some (.int .i64 x.1) ∧ w.cell? ⟨b, 1, none⟩ = some (.int .i64 x.2.1) ∧ w.cell? ⟨b, 2, none⟩ = some (.int .i64 x.2.2) ∧ ∀ j, w.frozen? ⟨b, j, none⟩ = false :=
  ⟨h.cell 0 _ rfl, h.cell 1 _ rfl, h.cell 2 _ rfl, h.free⟩

theorem wider_any (b : Nat) (W S A : Int) (w : World) (h : Var w b 54 (wd (W, S, A))) (hb : 1 ≤ W ∧ W ≤ 64) :
    Calls Try.prog 35 #[.pointer (some ⟨b, 0, none⟩)] w fun e w' => e = .returned (.tuple #[]) ∧ w' = w.setCell ⟨b, 0, none⟩ (.int .i64 (min (W + 1) 64)) := by
  refine calls_hide fun R hR => ?_
  obtain ⟨x0, x1, x2, xf⟩ := three h
  have hlt := h.lt
  have H := Lib.hid h
  clear h
  obtain ⟨hb1, hb2⟩ := hb
  have hc : (W ≤ 63 ∧ Hid (min (W + 1) 64 = W + 1)) ∨ (63 < W ∧ Hid (min (W + 1) 64 = 64)) := by
    by_cases h0 : W ≤ 63
    · exact .inl ⟨h0, Lib.hid (by omega)⟩
    · exact .inr ⟨by omega, Lib.hid (by omega)⟩
  go_enter Try.func35, Try.ntmps35
  rcases hc with ⟨h0, h1⟩ | ⟨h0, h1⟩
  · go_wp2
    refine bodyPost_ret (v := (.tuple #[])) (by simp [results, Try.results35, go_sem]) rfl ?_
    exact hR.out _ _ ⟨rfl, by rw [h1.out]⟩
  · go_wp2
    refine bodyPost_ret (v := (.tuple #[])) (by simp [results, Try.results35, go_sem]) rfl ?_
    exact hR.out _ _ ⟨rfl, by rw [h1.out]⟩

theorem set0 {w : World} {b : Nat} {W S A : Int} (h : Var w b 54 (wd (W, S, A))) (W' : Int) : Var (w.setCell ⟨b, 0, none⟩ (.int .i64 W')) b 54 (wd (W', S, A)) := h.set 0 _
theorem set2 {w : World} {b : Nat} {W S A : Int} (h : Var w b 54 (wd (W, S, A))) (A' : Int) : Var (w.setCell ⟨b, 2, none⟩ (.int .i64 A')) b 54 (wd (W, S, A')) := h.set 2 _

/-- a world that differs from another at one block and in what was drawn -/
structure Only (b : Nat) (w w' : World) : Prop where
  v : ∀ B a, Below B a w → B ≤ b → Below B a w'
  size : w'.heap.size = w.heap.size
  other : ∀ k, k ≠ b → w'.heap[k]? = w.heap[k]?
theorem Only.refl (b : Nat) (w : World) : Only b w w := ⟨fun _ _ h _ => h, rfl, fun _ _ => rfl⟩
theorem Only.trans {b : Nat} {w w' w'' : World} (h : Only b w w') (h' : Only b w' w'') : Only b w w'' :=
  ⟨fun B a h1 h2 => h'.v B a (h.v B a h1 h2) h2, h'.size.trans h.size, fun k hk => (h'.other k hk).trans (h.other k hk)⟩
theorem Only.drewN (b : Nat) (w : World) (n : Nat) : Only b w (w.drewN n) := ⟨fun _ _ h _ => h.trans ⟨rfl, rfl, rfl, Nat.le_refl _, fun _ _ => rfl⟩, rfl, fun _ _ => rfl⟩
theorem Only.set (b j : Nat) (w : World) (u : Value) : Only b w (w.setCell ⟨b, j, none⟩ u) :=
  ⟨fun B a h h2 => h.setCell h2 _, by simp, fun k hk => Below.heap_setCell _ _ _ _ hk⟩

set_option maxHeartbeats 4000000 in
theorem acked_any (b : Nat) (x : Int × Int × Int) (w : World) (h : Var w b 54 (wd x)) (hx : OK x) :
    Calls Try.prog 33 #[.pointer (some ⟨b, 0, none⟩)] w fun e w' => e = .returned (.tuple #[]) ∧ Var w' b 54 (wd (ack x)) ∧ Only b w w' := by
  refine calls_hide fun R hR => ?_
  obtain ⟨W, S, A⟩ := x
  obtain ⟨x0, x1, x2, xf⟩ := three h
  have hlt := h.lt
  have H := Lib.hid h
  obtain ⟨h1, h2, h3, h4, h5, h6, h7⟩ := hx
  simp only at h1 h2 h3 h4 h5 h6 x0 x1 x2
  clear h h7
  have hc : (W < S ∧ Hid (ack (W, S, A) = (min (W + 1) 64, S, A))) ∨ (S ≤ W ∧ W ≤ A + 1 ∧ Hid (ack (W, S, A) = (min (W + 1) 64, S, 0))) ∨ (S ≤ W ∧ A + 1 < W ∧ Hid (ack (W, S, A) = (W, S, A + 1))) := by
    unfold ack
    by_cases c1 : W < S
    · exact .inl ⟨c1, Lib.hid (by rw [if_pos c1])⟩
    · by_cases c2 : W ≤ A + 1
      · exact .inr (.inl ⟨by omega, c2, Lib.hid (by rw [if_neg c1, if_pos c2])⟩)
      · exact .inr (.inr ⟨by omega, by omega, Lib.hid (by rw [if_neg c1, if_neg c2])⟩)
  go_enter Try.func33, Try.ntmps33
  rcases hc with ⟨c1, HA⟩ | ⟨c1, c2, HA⟩ | ⟨c1, c2, HA⟩
  · go_wp2_with fail
    go_quiet (fail)
    go_wp2_with fail
    refine (wider_any b W S A _ ?hv ⟨h1, h2⟩).mono ?_
    case hv => exact H.out.keep rfl
    rintro e w' ⟨rfl, rfl⟩
    go_wp2
    refine bodyPost_ret (v := (.tuple #[])) (by simp [results, Try.results33, go_sem]) rfl ?_
    exact hR.out _ _ ⟨rfl, by rw [HA.out]; exact set0 (H.out.keep rfl) _, (Only.drewN _ _ _).trans (Only.set _ _ _ _)⟩
  · go_wp2_with fail
    go_quiet (fail)
    go_wp2_with fail
    go_quiet (fail)
    go_wp2_with fail
    refine (wider_any b W S 0 _ ?hv ⟨h1, h2⟩).mono ?_
    case hv => exact set2 ((set2 (H.out.keep (w' := w.drewN _) rfl) (A + 1)).keep rfl) 0
    rintro e w' ⟨rfl, rfl⟩
    go_wp2
    refine bodyPost_ret (v := (.tuple #[])) (by simp [results, Try.results33, go_sem]) rfl ?_
    exact hR.out _ _ ⟨rfl, by rw [HA.out]; exact set0 (set2 ((set2 (H.out.keep (w' := w.drewN _) rfl) (A + 1)).keep rfl) 0) _, (((((Only.drewN _ _ _).trans (Only.set _ _ _ _)).trans (Only.drewN _ _ _)).trans (Only.set _ _ _ _)).trans (Only.set _ _ _ _))⟩
  · go_wp2_with fail
    go_quiet (fail)
    go_wp2_with fail
    go_quiet (fail)
    go_wp2
    refine bodyPost_ret (v := (.tuple #[])) (by simp [results, Try.results33, go_sem]) rfl ?_
    exact hR.out _ _ ⟨rfl, by rw [HA.out]; exact (set2 (H.out.keep (w' := w.drewN _) rfl) (A + 1)).keep rfl, ((Only.drewN _ _ _).trans (Only.set _ _ _ _)).trans (Only.drewN _ _ _)⟩

set_option maxHeartbeats 4000000 in
theorem lost_any (b : Nat) (x : Int × Int × Int) (late : Bool) (w : World) (h : Var w b 54 (wd x)) (hx : OK x) :
    Calls Try.prog 34 #[.pointer (some ⟨b, 0, none⟩), .bool late] w fun e w' => e = .returned (.tuple #[]) ∧ Var w' b 54 (wd (lose late x)) ∧ Only b w w' := by
  refine calls_hide fun R hR => ?_
  obtain ⟨W, S, A⟩ := x
  obtain ⟨x0, x1, x2, xf⟩ := three h
  have hlt := h.lt
  have H := Lib.hid h
  obtain ⟨h1, h2, h3, h4, h5, h6, h7⟩ := hx
  simp only at h1 h2 h3 h4 h5 h6 x0 x1 x2
  clear h h7
  have hq : W.tdiv 2 = W / 2 := Int.tdiv_eq_ediv_of_nonneg (by omega)
  have hqb : 0 ≤ W.tdiv 2 ∧ W.tdiv 2 ≤ 32 := by omega
  have hc : (W.tdiv 2 < 2 ∧ Hid (lose late (W, S, A) = (if late then 1 else 2, 2, 0))) ∨ (2 ≤ W.tdiv 2 ∧ Hid (lose late (W, S, A) = (if late then 1 else W.tdiv 2, W.tdiv 2, 0))) := by
    unfold lose
    by_cases c : W.tdiv 2 < 2
    · exact .inl ⟨c, Lib.hid (by rw [show max (W / 2) 2 = 2 by omega])⟩
    · exact .inr ⟨by omega, Lib.hid (by rw [show max (W / 2) 2 = W.tdiv 2 by omega])⟩
  clear hq
  obtain ⟨hq1, hq2⟩ := hqb
  have V : ∀ s : Int, Var (((w.setCell ⟨b, 1, none⟩ (.int .i64 s)).setCell ⟨b, 2, none⟩ (.int .i64 0)).setCell ⟨b, 0, none⟩ (.int .i64 s)) b 54 (wd (s, s, 0)) := fun s => ((H.out.set 1 _).set 2 _).set 0 _
  have O : ∀ s : Int, Only b w (((w.setCell ⟨b, 1, none⟩ (.int .i64 s)).setCell ⟨b, 2, none⟩ (.int .i64 0)).setCell ⟨b, 0, none⟩ (.int .i64 s)) := fun s => ((Only.set _ _ _ _).trans (Only.set _ _ _ _)).trans (Only.set _ _ _ _)
  have HV := Lib.hid V
  have HO := Lib.hid O
  clear V O
  go_enter Try.func34, Try.ntmps34
  cases late
  all_goals
    rcases hc with ⟨c, HL⟩ | ⟨c, HL⟩
    all_goals
      go_wp2
      refine bodyPost_ret (v := (.tuple #[])) (by simp [results, Try.results34, go_sem]) rfl ?_
      first
        | exact hR.out _ _ ⟨rfl, by rw [HL.out]; exact HV.out _, HO.out _⟩
        | exact hR.out _ _ ⟨rfl, by rw [HL.out]; exact set0 (HV.out _) 1, (HO.out _).trans (Only.set _ _ _ _)⟩
end cong
end Go.Proofs.Ytpfpjlhcmdpdkaa
