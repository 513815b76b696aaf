/-
  THE WALKS OF RtoGood, RtoBetween: each returns true. Conditions: none.
-/
import Derived.Test.YtpfpjlhcmdpdkaaRto
namespace Go.Proofs.Ytpfpjlhcmdpdkaa
open Go.RowKit rto
set_option linter.unusedVariables false

theorem waits_ge (s v : Int) (hv : 0 ≤ v) : s / 8 ≤ waits s v ∨ (waits s v < s / 8 ∧ waits s v = 60000) := by unfold waits; omega

set_option maxHeartbeats 4000000 in
theorem rtoGood_walk (a0 : Option Addr) (len0 cap0 : Nat) (z0 : List Int) (a1 : Int) (w : World) (w0 : IsRow .i64 w a0 len0 cap0 z0) (w1 : (Lit.int .i64 a1).wf = true) :
    Calls Try.prog 7 #[.slice a0 len0 cap0, .int .i64 a1] w fun e w' => e = .returned (.bool true) ∧ Below w.heap.size w w' := by
  refine calls_hide fun R hR => ?_
  have hsl := w0.sl.1
  clear w0 w1
  go_enter Try.func7, Try.ntmps7
  go_wp2_with fail
  refine (timerOf_any _ _ _ _ 60 _ hsl (by omega)).mono ?_
  rintro e w1 ⟨s, v, d, b, hg, rfl, hb1⟩
  have hb1' := Lib.hid hb1
  have hs1 := hb1.size
  clear hsl hb1
  go_wp2
  have V1 := Var.new w1 37 [.int .i64 s, .int .i64 v, .int .i64 d, .int .i64 b]
  have hb2 := hb1'.out.alloc hs1 (.cells #[.int .i64 s, .int .i64 v, .int .i64 d, .int .i64 b] 37)
  change Var (w1.alloc (.cells #[.int .i64 s, .int .i64 v, .int .i64 d, .int .i64 b] 37)) _ _ _ at V1
  generalize w1.alloc (.cells #[.int .i64 s, .int .i64 v, .int .i64 d, .int .i64 b] 37) = w2 at V1 hb2 ⊢
  generalize w1.heap.size = tb at V1 hs1 ⊢
  have hs2 := hb2.size
  obtain ⟨t0, t1, t2, t3, tf⟩ := V1.four
  have htb := V1.lt
  have hm0 : 0 ≤ a1 % 1048577 ∧ a1 % 1048577 ≤ 1048576 := by omega
  have hnx : ∀ W, Calls Try.prog 20 #[tv s v d b, .int .i64 (a1 % 1048577)] W fun e w' => e = .returned (.tuple #[tv (nS s (a1 % 1048577)) (nV s v (a1 % 1048577)) (waits (nS s (a1 % 1048577)) (nV s v (a1 % 1048577))) 0, .int .i64 0]) ∧ Below W.heap.size W w' := fun W => next_any s v d b _ W hg hm0.1 hm0.2
  have hge := waits_ge (nS s (a1 % 1048577)) (nV s v (a1 % 1048577)) (next_good s v d b (a1 % 1048577) hg hm0.1 hm0.2).v0
  have HNX := Lib.hid hnx
  clear hnx
  have HN := Lib.hid (next_good s v d b (a1 % 1048577) hg hm0.1 hm0.2)
  have HB2 := Lib.hid hb2
  generalize waits (nS s (a1 % 1048577)) (nV s v (a1 % 1048577)) = d' at HNX HN hge
  generalize nS s (a1 % 1048577) = s' at HNX HN hge
  generalize nV s v (a1 % 1048577) = v' at HNX HN hge
  have HGE := Lib.hid hge
  clear hm0 hg V1 hb2 hb1' hge
  go_region_law (first | (refine step_call (picked_any a1 1048577 _ (by omega) (by omega)) rfl (by simp [Region.wanted]) (by go_simp) ?_; rintro e v1 ⟨rfl, rfl⟩; refine ⟨_, rfl, ?_⟩) | (refine step_call (HNX.out _) rfl (by simp [Region.wanted]) (by go_simp) ?_; rintro e v1 ⟨rfl, hm1⟩; have hv1 := hm1.size; have HM1 := Lib.hid hm1; obtain ⟨hc1, hf1⟩ := bcell hm1; clear hm1; refine ⟨_, rfl, ?_⟩))
  all_goals
    go_wp2_with fail
    refine (first_low _).mono ?_
    rintro e v3 ⟨rfl, h3⟩
    have hv3 := h3.size
    simp only [World.size_alloc, World.size_setCell, World.size_drew] at hv3 hv1
    first
      | have VX := (Var.new v1 37 [.int .i64 _, .int .i64 _, .int .i64 _, .int .i64 _]).below h3
        have hbf : Below w.heap.size w v3 := ((HB2.out.drew.trans (HM1.out.mono (by simp; omega))).alloc (by omega) _).trans (h3.mono (by simp; omega))
      | have VX := ((((((Var.new w2 37 [.int .i64 0, .int .i64 0, .int .i64 0, .int .i64 0]).drew.below HM1.out).set 0 _).set 1 _).set 2 _).set 3 _).below h3
        have hbf : Below w.heap.size w v3 := (((((HB2.out.alloc (by omega) _).drew.trans (HM1.out.mono (by simp; omega))).setCell (p := ⟨w2.heap.size, 0, none⟩) (by simp; omega) _).setCell (p := ⟨w2.heap.size, 1, none⟩) (by simp; omega) _).setCell (p := ⟨w2.heap.size, 2, none⟩) (by simp; omega) _).setCell (p := ⟨w2.heap.size, 3, none⟩) (by simp; omega) _ |>.trans (h3.mono (by simp; omega))
    obtain ⟨g1, g2, g3, g4, g5, g6, g7, g8⟩ := HN.out
    have VX' : Var v3 _ 37 [.int .i64 s', .int .i64 v', .int .i64 d', .int .i64 0] := VX
    clear VX hc1 hf1 h3
    obtain ⟨x0, x1, x2, x3, xf⟩ := VX'.four
    have hxl := VX'.lt
    go_wp2_with fail
    refine (may_yes _ _ _ _ _ HN.out).mono ?_
    rintro e v4 ⟨rfl, h4⟩
    have VX4 := (VX'.alloc _).below h4
    have hfin := (hbf.alloc (by omega) _).trans (h4.mono (by simp; omega))
    clear x0 x1 x2 x3 xf VX' hbf h4
    obtain ⟨x0, x1, x2, x3, xf⟩ := VX4.four
    rcases HGE.out with hge | ⟨hge, rfl⟩
    · go_wp2
      exact hR.out _ _ ⟨rfl, hfin⟩
    · go_wp2
      exact hR.out _ _ ⟨rfl, hfin⟩
end Go.Proofs.Ytpfpjlhcmdpdkaa
