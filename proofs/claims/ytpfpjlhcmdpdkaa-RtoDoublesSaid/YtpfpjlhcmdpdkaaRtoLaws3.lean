/-
  THE WALK OF RtoDoubles: it returns true. Conditions: none.
-/
import Derived.Test.YtpfpjlhcmdpdkaaRto
namespace Go.Proofs.Ytpfpjlhcmdpdkaa
open Go.RowKit rto
set_option linter.unusedVariables false

set_option maxRecDepth 100000 in
set_option maxHeartbeats 4000000 in
theorem rtoDoubles_walk (a0 : Option Addr) (len0 cap0 : Nat) (z0 : List Int) (a1 : Int) (w : World) (w0 : IsRow .i64 w a0 len0 cap0 z0) (w1 : (Lit.int .i64 a1).wf = true) :
    Calls Try.prog 10 #[.slice a0 len0 cap0, .int .i64 a1] w fun e w' => e = .returned (.bool true) ∧ Below w.heap.size w w' := by
  refine calls_hide fun R hR => ?_
  have hsl := w0.sl.1
  clear w0 w1
  go_enter Try.func10, Try.ntmps10
  go_wp2_with fail
  refine (timerOf_any _ _ _ _ 40 _ hsl (by omega)).mono ?_
  rintro e w1 ⟨s, v, d, b, hg, rfl, hb1⟩
  have hb1' := Lib.hid hb1
  have hs1 := hb1.size
  clear hsl hb1
  go_wp2_with fail
  have hb2 := hb1'.out.alloc hs1 (.cells #[.int .i64 s, .int .i64 v, .int .i64 d, .int .i64 b] 37)
  generalize w1.alloc (.cells #[.int .i64 s, .int .i64 v, .int .i64 d, .int .i64 b] 37) = w2 at hb2 ⊢
  generalize w1.heap.size = tb at hs1 ⊢
  have hs2 := hb2.size
  have HN := Lib.hid (next_good s v d b 100 hg (by omega) (by omega))
  refine (next_any s v d b 100 _ hg (by omega) (by omega)).mono ?_
  rintro e w3 ⟨rfl, hb3⟩
  generalize waits (nS s 100) (nV s v 100) = D at HN ⊢
  generalize nS s 100 = S at HN ⊢
  generalize nV s v 100 = V at HN ⊢
  have hb3' := Lib.hid (hb2.trans (hb3.mono hs2))
  have hs3 := hb3'.out.size
  clear hg hb2 hb3 hb1' hs1
  go_wp2_with fail
  have VS := Var.new w3 37 [.int .i64 S, .int .i64 V, .int .i64 D, .int .i64 0]
  have hb4 := hb3'.out.alloc hs3 (.cells #[.int .i64 S, .int .i64 V, .int .i64 D, .int .i64 0] 37)
  change Var (w3.alloc (.cells #[.int .i64 S, .int .i64 V, .int .i64 D, .int .i64 0] 37)) _ _ _ at VS
  generalize w3.alloc (.cells #[.int .i64 S, .int .i64 V, .int .i64 D, .int .i64 0] 37) = w4 at VS hb4 ⊢
  generalize w3.heap.size = sb at VS ⊢
  have hs4 := hb4.size
  obtain ⟨s0, s1, s2, s3, sf⟩ := VS.four
  have hsl4 := VS.lt
  have HB4 := Lib.hid hb4
  clear hb3' hb4
  refine (picked_any a1 13 _ (by omega) (by omega)).mono ?_
  rintro e w' ⟨rfl, rfl⟩
  obtain ⟨m, hm⟩ := Int.eq_ofNat_of_zero_le (Int.emod_nonneg a1 (show (13 : Int) ≠ 0 by omega))
  have hm12 : m ≤ 12 := by have := Int.emod_lt_of_pos a1 (show (0 : Int) < 13 by omega); omega
  rw [hm]
  clear hm
  go_wp2_with fail
  have VX := Var.new w4 37 [.int .i64 S, .int .i64 V, .int .i64 D, .int .i64 0]
  have VS5 := VS.alloc (.cells #[.int .i64 S, .int .i64 V, .int .i64 D, .int .i64 0] 37)
  have hb5 := HB4.out.alloc hs4 (.cells #[.int .i64 S, .int .i64 V, .int .i64 D, .int .i64 0] 37)
  change Var (w4.alloc (.cells #[.int .i64 S, .int .i64 V, .int .i64 D, .int .i64 0] 37)) _ _ _ at VX
  generalize w4.alloc (.cells #[.int .i64 S, .int .i64 V, .int .i64 D, .int .i64 0] 37) = w5 at VX VS5 hb5 ⊢
  generalize w4.heap.size = xb at VX hs4 hsl4 ⊢
  have hne : sb ≠ xb := by omega
  clear VS HB4 s0 s1 s2 s3 sf
  go_loopw [11] (fun i wr => ∃ (k : Nat) (d' : Int), k ≤ m ∧ i = .int .i64 k ∧ Hid (rto.Good S V d' k ∧ Var wr xb 37 [.int .i64 S, .int .i64 V, .int .i64 d', .int .i64 k] ∧ Var wr sb 37 [.int .i64 S, .int .i64 V, .int .i64 D, .int .i64 0] ∧ Below w.heap.size w wr)) (fun i _ => m - (intOf i).toNat)
  case atStart => exact ⟨0, D, by omega, rfl, Lib.hid ⟨HN.out, VX, VS5, hb5⟩⟩
  case round =>
    clear VX VS5 hb5
    obtain ⟨k, d', hk, rfl, hH⟩ := hrel
    obtain ⟨hg', hT, hS, hbr⟩ := hH.out
    have hsr := hbr.size
    have htl := hT.lt
    have hsl := hS.lt
    have HG := Lib.hid hg'
    have HV := Lib.hid hT
    have HS := Lib.hid hS
    have HBR := Lib.hid hbr
    clear hH hg' hT hS hbr
    obtain ⟨t0, t1, t2, t3, tf⟩ := HV.out.four
    by_cases hlt : k < m
    · have hd1 := HG.out.d0
      have hd2 := HG.out.d1
      go_wp2_with fail
      refine (back_yes S V d' k _ HG.out (by omega)).mono ?_
      rintro e v1 ⟨rfl, hm1⟩
      have HN' : Hid (rto.Good S V (min (2 * d') 60000) ((k : Int) + 1)) := by
        obtain ⟨a1, a2, a3, a4, a5, a6, a7, a8⟩ := HG.out
        exact Lib.hid ⟨a1, a2, a3, a4, by omega, by omega, by omega, by omega⟩
      have hv1 := hm1.size
      have htl1 : xb < v1.heap.size := by omega
      clear t0 t1 t2 t3 tf
      obtain ⟨t0, t1, t2, t3, tf⟩ := (HV.out.below hm1).four
      have HM1 := Lib.hid hm1
      clear hm1
      have hmin : (2 * d' ≤ 60000 ∧ min (2 * d') 60000 = 2 * d') ∨ (60000 < 2 * d' ∧ min (2 * d') 60000 = 60000) := by omega
      generalize min (2 * d') 60000 = d1 at HN' hmin ⊢
      rcases hmin with ⟨h1, rfl⟩ | ⟨h1, rfl⟩
      all_goals
        go_wp2
        go_roundw
        case rel =>
          refine ⟨k + 1, _, by omega, by go_num, Lib.hid ⟨HN'.out, ?_, ?_, ?_⟩⟩
          · exact (((((HV.out.below HM1.out).set 0 _).set 1 _).set 2 _).set 3 _).alloc _
          · exact (((((HS.out.below HM1.out).other hne _ _).other hne _ _).other hne _ _).other hne _ _).alloc _
          · have hfin : Below w.heap.size w v1 := HBR.out.trans (HM1.out.mono (by omega))
            refine Below.alloc ?_ (by simp; omega) _
            repeat (first | refine Below.setCell ?_ (by simp; omega) _ | exact hfin)
        case measure => simp [intOf]; omega
    · obtain rfl : k = m := by omega
      obtain ⟨s0, s1, s2, s3, sf⟩ := HS.out.four
      go_wp2_with fail
      refine (next_any S V d' k 100 _ HG.out (by omega) (by omega)).mono ?_
      rintro e v1 ⟨rfl, hm1⟩
      have hv1 := hm1.size
      have VX1 := (HV.out.below hm1)
      have VS1 := (HS.out.below hm1)
      have hb1 := HBR.out.trans (hm1.mono (by omega))
      clear t0 t1 t2 t3 tf s0 s1 s2 s3 sf hm1
      obtain ⟨s0, s1, s2, s3, sf⟩ := VS1.four
      have hxl1 := VX1.lt
      have hsl1 := VS1.lt
      go_wp2_with fail
      refine (next_any S V D 0 100 _ HN.out (by omega) (by omega)).mono ?_
      rintro e v2 ⟨rfl, hm2⟩
      have hv2 := hm2.size
      simp only [World.size_alloc] at hv2
      have VA := (Var.new v1 37 [.int .i64 (nS S 100), .int .i64 (nV S V 100), .int .i64 (waits (nS S 100) (nV S V 100)), .int .i64 0]).below hm2
      have VX2 := (VX1.alloc _).below hm2
      have hb2 := (hb1.alloc (by omega) _).trans (hm2.mono (by simp; omega))
      generalize waits (nS S 100) (nV S V 100) = e1 at VA ⊢
      generalize nS S 100 = e2 at VA ⊢
      generalize nV S V 100 = e3 at VA ⊢
      clear s0 s1 s2 s3 sf VS1 VX1 hm2 hb1
      obtain ⟨t0, t1, t2, t3, tf⟩ := VX2.four
      obtain ⟨p0, p1, p2, p3, pf⟩ := VA.four
      have hxl2 := VX2.lt
      have hpl2 := VA.lt
      have HB2 := Lib.hid hb2
      clear hb2 VX2 VA
      go_wp2
      exact hR.out _ _ ⟨rfl, HB2.out.alloc (by omega) _⟩
end Go.Proofs.Ytpfpjlhcmdpdkaa
