/-
  CONTRACTS of package rto, and of packthreadkeep.TimerOf. Conditions: as each theorem names them.
-/
import Derived.Test.YtpfpjlhcmdpdkaaSl
import Derived.Test.YtpfpjlhcmdpdkaaPicked
namespace Go.Proofs.Ytpfpjlhcmdpdkaa
open Go.RowKit
set_option linter.unusedVariables false

namespace rto
/-- a timer, as a value -/
abbrev tv (s v d b : Int) : Value := .agg #[.int .i64 s, .int .i64 v, .int .i64 d, .int .i64 b]

theorem in_yes (n low high : Int) (w : World) (h1 : low ≤ n) (h2 : n ≤ high) :
    Calls Try.prog 30 #[.int .i64 n, .int .i64 low, .int .i64 high] w fun e w' => e = .returned (.bool true) ∧ w = w' := by
  refine calls_hide fun R hR => ?_
  go_enter Try.func30, Try.ntmps30
  go_wp2
  exact hR.out _ _ ⟨rfl, rfl⟩
theorem in_low (n low high : Int) (w : World) (h1 : n < low) :
    Calls Try.prog 30 #[.int .i64 n, .int .i64 low, .int .i64 high] w fun e w' => e = .returned (.bool false) ∧ w = w' := by
  refine calls_hide fun R hR => ?_
  go_enter Try.func30, Try.ntmps30
  go_wp2
  exact hR.out _ _ ⟨rfl, rfl⟩

/-- what a timer may be -/
structure Good (s v d b : Int) : Prop where
  s0 : 0 ≤ s
  s1 : s ≤ 8388608
  v0 : 0 ≤ v
  v1 : v ≤ 4194304
  d0 : 200 ≤ d
  d1 : d ≤ 60000
  b0 : 0 ≤ b
  b1 : b ≤ 12

theorem may_yes (s v d b : Int) (w : World) (h : Good s v d b) :
    Calls Try.prog 22 #[tv s v d b] w fun e w' => e = .returned (.bool true) ∧ Below w.heap.size w w' := by
  refine calls_hide fun R hR => ?_
  obtain ⟨h1, h2, h3, h4, h5, h6, h7, h8⟩ := h
  go_enter Try.func22, Try.ntmps22
  go_wp2_with fail
  refine (in_yes _ _ _ _ h1 h2).mono ?_
  rintro e w' ⟨rfl, rfl⟩
  go_wp2_with fail
  refine (in_yes _ _ _ _ h3 h4).mono ?_
  rintro e w' ⟨rfl, rfl⟩
  go_wp2_with fail
  refine (in_yes _ _ _ _ h5 h6).mono ?_
  rintro e w' ⟨rfl, rfl⟩
  go_wp2_with fail
  refine (in_yes _ _ _ _ h7 h8).mono ?_
  rintro e w' ⟨rfl, rfl⟩
  go_wp2
  exact hR.out _ _ ⟨rfl, (Below.refl _ _).alloc (Nat.le_refl _) _⟩

def waits (s v : Int) : Int := min (max (s / 8 + v) 200) 60000

theorem set_any (s v d b : Int) (w : World) (hs : 0 ≤ s ∧ s ≤ 8388608) (hv : 0 ≤ v ∧ v ≤ 4194304) :
    Calls Try.prog 31 #[tv s v d b] w fun e w' => e = .returned (tv s v (waits s v) 0) ∧ Below w.heap.size w w' := by
  refine calls_hide fun R hR => ?_
  obtain ⟨h1, h2⟩ := hs
  obtain ⟨h3, h4⟩ := hv
  have hb : ∀ o o', Below w.heap.size w ((w.alloc o).alloc o') := fun o o' => ((Below.refl _ _).alloc (Nat.le_refl _) _).alloc (by simp) _
  by_cases c1 : s / 8 + v < 200
  · have hw : waits s v = 200 := by unfold waits; omega
    rw [hw] at hR
    go_enter Try.func31, Try.ntmps31
    go_wp2
    refine bodyPost_ret (v := (tv s v 200 0)) (by simp [results, Try.results31, go_sem]) rfl ?_
    exact hR.out _ _ ⟨rfl, hb _ _⟩
  · by_cases c2 : s / 8 + v ≤ 60000
    · have hw : waits s v = s / 8 + v := by unfold waits; omega
      rw [hw] at hR
      go_enter Try.func31, Try.ntmps31
      go_wp2
      refine bodyPost_ret (v := (tv s v (s / 8 + v) 0)) (by simp [results, Try.results31, go_sem]) rfl ?_
      exact hR.out _ _ ⟨rfl, hb _ _⟩
    · have hw : waits s v = 60000 := by unfold waits; omega
      rw [hw] at hR
      go_enter Try.func31, Try.ntmps31
      go_wp2
      refine bodyPost_ret (v := (tv s v 60000 0)) (by simp [results, Try.results31, go_sem]) rfl ?_
      exact hR.out _ _ ⟨rfl, hb _ _⟩

theorem first_any (n : Int) (w : World) (h1 : 0 ≤ n) (h2 : n ≤ 1048576) :
    Calls Try.prog 21 #[.int .i64 n] w fun e w' => e = .returned (.tuple #[tv (8 * n) (2 * n) (waits (8 * n) (2 * n)) 0, .int .i64 0]) ∧ Below w.heap.size w w' := by
  refine calls_hide fun R hR => ?_
  go_enter Try.func21, Try.ntmps21
  go_wp2_with fail
  refine (in_yes _ _ _ _ h1 h2).mono ?_
  rintro e w' ⟨rfl, rfl⟩
  go_wp2_with fail
  refine (set_any _ _ _ _ _ (by omega) (by omega)).mono ?_
  rintro e w1 ⟨rfl, hb⟩
  generalize waits (8 * n) (2 * n) = wt at hR ⊢
  obtain ⟨hc, hf⟩ := bcell hb
  have hs := hb.size
  simp only [World.size_alloc] at hs
  go_wp2
  refine bodyPost_ret (v := (.tuple #[tv (8 * n) (2 * n) wt 0, .int .i64 0])) (by simp [results, Try.results21, go_sem, hc]) rfl ?_
  refine hR.out _ _ ⟨rfl, ?_⟩
  have hb0 : Below w.heap.size w w1 := ((Below.refl _ _).alloc (Nat.le_refl _) _).trans (hb.mono (by simp))
  exact (((hb0.setCell (Nat.le_refl _) _).setCell (Nat.le_refl _) _).setCell (Nat.le_refl _) _).setCell (Nat.le_refl _) _

theorem first_low (w : World) :
    Calls Try.prog 21 #[.int .i64 (-1)] w fun e w' => e = .returned (.tuple #[tv 0 0 0 0, .int .i64 2]) ∧ Below w.heap.size w w' := by
  refine calls_hide fun R hR => ?_
  go_enter Try.func21, Try.ntmps21
  go_wp2_with fail
  refine (in_low _ _ _ _ (by omega)).mono ?_
  rintro e w' ⟨rfl, rfl⟩
  go_wp2
  refine bodyPost_ret (v := (.tuple #[tv 0 0 0 0, .int .i64 2])) (by simp [results, Try.results21, go_sem]) rfl ?_
  exact hR.out _ _ ⟨rfl, (Below.refl _ _).alloc (Nat.le_refl _) _⟩

/-- what a sample makes of a timer -/
def nS (s n : Int) : Int := s + (n - s / 8)
def nV (s v n : Int) : Int := v + (max (n - s / 8) (-(n - s / 8)) - v / 4)

theorem next_good (s v d b n : Int) (h : Good s v d b) (h1 : 0 ≤ n) (h2 : n ≤ 1048576) : Good (nS s n) (nV s v n) (waits (nS s n) (nV s v n)) 0 := by
  obtain ⟨a1, a2, a3, a4, a5, a6, a7, a8⟩ := h
  unfold nS nV
  refine ⟨by omega, by omega, by omega, by omega, ?_, ?_, by omega, by omega⟩ <;> (unfold waits; omega)

theorem next_any (s v d b n : Int) (w : World) (h : Good s v d b) (h1 : 0 ≤ n) (h2 : n ≤ 1048576) :
    Calls Try.prog 20 #[tv s v d b, .int .i64 n] w fun e w' => e = .returned (.tuple #[tv (nS s n) (nV s v n) (waits (nS s n) (nV s v n)) 0, .int .i64 0]) ∧ Below w.heap.size w w' := by
  refine calls_hide fun R hR => ?_
  have hg := next_good s v d b n h h1 h2
  obtain ⟨a1, a2, a3, a4, a5, a6, a7, a8⟩ := h
  obtain ⟨g1, g2, g3, g4, -, -, -, -⟩ := hg
  have hv : nV s v n = v + (max (n - s / 8) (-(n - s / 8)) - v / 4) := rfl
  have hs : nS s n = s + (n - s / 8) := rfl
  generalize nV s v n = v' at hR g3 g4 hv
  generalize nS s n = s' at hR g1 g2 hs
  go_enter Try.func20, Try.ntmps20
  go_wp2_with fail
  refine (may_yes _ _ _ _ _ ⟨a1, a2, a3, a4, a5, a6, a7, a8⟩).mono ?_
  rintro e w1 ⟨rfl, hb1⟩
  have hs1 := hb1.size
  simp only [World.size_alloc] at hs1
  have VT := ((Var.new w 37 [.int .i64 s, .int .i64 v, .int .i64 d, .int .i64 b]).alloc _).below hb1
  have VR := (Var.new (w.alloc (.cells #[.int .i64 s, .int .i64 v, .int .i64 d, .int .i64 b] 37)) 37 [.int .i64 0, .int .i64 0, .int .i64 0, .int .i64 0]).below hb1
  have hb0 : Below w.heap.size w w1 := ((((Below.refl _ _).alloc (Nat.le_refl _) _).alloc (by simp) _).trans (hb1.mono (by simp; omega)))
  simp only [World.size_alloc] at VR
  clear hb1
  obtain ⟨t0, t1, t2, t3, tf⟩ := VT.four
  go_wp2_with fail
  refine (in_yes _ _ _ _ h1 h2).mono ?_
  rintro e w' ⟨rfl, rfl⟩
  by_cases hq : 0 ≤ n - s / 8
  case' pos =>
    have hmax : v' = v + (n - s / 8 - v / 4) := by omega
  case' neg =>
    have hmax : v' = v + (-(n - s / 8) - v / 4) := by omega
  all_goals
    have HM := Lib.hid hmax
    have HS := Lib.hid hs
    clear hmax hs hv
    go_wp2_with fail
    rw [← HM.out, ← HS.out]
    clear HM HS
    refine (set_any s' v' _ _ _ ⟨g1, g2⟩ ⟨g3, g4⟩).mono ?_
    rintro e w2 ⟨rfl, hb2⟩
    have VR2 := ((VR.other (by omega) _ _).other (by omega) _ _).below hb2
    have hb3 : Below w.heap.size w w2 := ((hb0.setCell (p := ⟨w.heap.size, 0, none⟩) (Nat.le_refl _) _).setCell (p := ⟨w.heap.size, 1, none⟩) (Nat.le_refl _) _).trans (hb2.mono (by simp; omega))
    generalize waits s' v' = wt at hR ⊢
    clear hb2 VT VR t0 t1 t2 t3 tf hs1 hb0
    obtain ⟨t0, t1, t2, t3, tf⟩ := VR2.four
    go_wp2
    refine bodyPost_ret (v := (.tuple #[tv s' v' wt 0, .int .i64 0])) (by simp [results, Try.results20, go_sem, t0, t1, t2, t3]) rfl ?_
    exact hR.out _ _ ⟨rfl, (((hb3.setCell (by simp) _).setCell (by simp) _).setCell (by simp) _).setCell (by simp) _⟩

theorem back_yes (s v d b : Int) (w : World) (h : Good s v d b) (hb : b < 12) :
    Calls Try.prog 23 #[tv s v d b] w fun e w' => e = .returned (.tuple #[tv s v (min (2 * d) 60000) (b + 1), .int .i64 0]) ∧ Below w.heap.size w w' := by
  refine calls_hide fun R hR => ?_
  obtain ⟨a1, a2, a3, a4, a5, a6, a7, a8⟩ := h
  have hm : (2 * d ≤ 60000 ∧ min (2 * d) 60000 = 2 * d) ∨ (60000 < 2 * d ∧ min (2 * d) 60000 = 60000) := by omega
  generalize min (2 * d) 60000 = d' at hm hR
  go_enter Try.func23, Try.ntmps23
  go_wp2_with fail
  refine (may_yes _ _ _ _ _ ⟨a1, a2, a3, a4, a5, a6, a7, a8⟩).mono ?_
  rintro e w1 ⟨rfl, hb1⟩
  have hs1 := hb1.size
  simp only [World.size_alloc] at hs1
  have VT := ((Var.new w 37 [.int .i64 s, .int .i64 v, .int .i64 d, .int .i64 b]).alloc _).below hb1
  have VR := (Var.new (w.alloc (.cells #[.int .i64 s, .int .i64 v, .int .i64 d, .int .i64 b] 37)) 37 [.int .i64 0, .int .i64 0, .int .i64 0, .int .i64 0]).below hb1
  have hb0 : Below w.heap.size w w1 := ((((Below.refl _ _).alloc (Nat.le_refl _) _).alloc (by simp) _).trans (hb1.mono (by simp; omega)))
  simp only [World.size_alloc] at VR
  clear hb1
  obtain ⟨t0, t1, t2, t3, tf⟩ := VT.four
  obtain ⟨r0, r1, r2, r3, rf⟩ := VR.four
  rcases hm with ⟨hm, rfl⟩ | ⟨hm, rfl⟩
  · go_wp2
    refine bodyPost_ret (v := (.tuple #[tv s v (2 * d) (b + 1), .int .i64 0])) (by simp [results, Try.results23, go_sem, r0, r1, r2, r3]) rfl ?_
    exact hR.out _ _ ⟨rfl, by repeat (first | refine Below.setCell ?_ (by simp) _ | exact hb0)⟩
  · go_wp2
    refine bodyPost_ret (v := (.tuple #[tv s v 60000 (b + 1), .int .i64 0])) (by simp [results, Try.results23, go_sem, r0, r1, r2, r3]) rfl ?_
    exact hR.out _ _ ⟨rfl, by repeat (first | refine Below.setCell ?_ (by simp) _ | exact hb0)⟩

theorem back_full (s v d : Int) (w : World) (h : Good s v d 12) :
    Calls Try.prog 23 #[tv s v d 12] w fun e w' => e = .returned (.tuple #[tv 0 0 0 0, .int .i64 9]) ∧ Below w.heap.size w w' := by
  refine calls_hide fun R hR => ?_
  obtain ⟨a1, a2, a3, a4, a5, a6, a7, a8⟩ := h
  go_enter Try.func23, Try.ntmps23
  go_wp2_with fail
  refine (may_yes _ _ _ _ _ ⟨a1, a2, a3, a4, a5, a6, a7, a8⟩).mono ?_
  rintro e w1 ⟨rfl, hb1⟩
  have hs1 := hb1.size
  simp only [World.size_alloc] at hs1
  have VT := ((Var.new w 37 [.int .i64 s, .int .i64 v, .int .i64 d, .int .i64 12]).alloc _).below hb1
  have VR := (Var.new (w.alloc (.cells #[.int .i64 s, .int .i64 v, .int .i64 d, .int .i64 12] 37)) 37 [.int .i64 0, .int .i64 0, .int .i64 0, .int .i64 0]).below hb1
  have hb0 : Below w.heap.size w w1 := ((((Below.refl _ _).alloc (Nat.le_refl _) _).alloc (by simp) _).trans (hb1.mono (by simp; omega)))
  simp only [World.size_alloc] at VR
  clear hb1
  obtain ⟨t0, t1, t2, t3, tf⟩ := VT.four
  obtain ⟨r0, r1, r2, r3, rf⟩ := VR.four
  go_wp2
  refine bodyPost_ret (v := (.tuple #[tv 0 0 0 0, .int .i64 9])) (by simp [results, Try.results23, go_sem, r0, r1, r2, r3]) rfl ?_
  exact hR.out _ _ ⟨rfl, by repeat (first | refine Below.setCell ?_ (by simp) _ | exact hb0)⟩

theorem first7 : waits (8 * 7) (2 * 7) = 200 := by unfold waits; omega

set_option maxHeartbeats 4000000 in
theorem timerOf_any (ao : Option Addr) (len c : Nat) (zs : List Int) (n : Nat) (w : World) (hsl : Sl w ao len c 1 (zs.map (Value.int .i64))) (hn : n ≤ 1000) :
    Calls Try.prog 19 #[.slice ao len c, .int .i64 n] w fun e w' => ∃ s v d b, Good s v d b ∧ e = .returned (.tuple #[tv s v d b, .bool true]) ∧ Below w.heap.size w w' := by
  refine calls_hide fun R hR => ?_
  have hzl : zs.length = len := by have := hsl.len; simpa using this
  have hcl := hsl.le
  have hcm := hsl.cap
  unfold maxLen at hcm
  go_enter Try.func19, Try.ntmps19
  go_wp2_with fail
  refine (first_any 7 _ (by omega) (by omega)).mono ?_
  rintro e w1 ⟨rfl, hb1⟩
  rw [first7]
  have hs1 := hb1.size
  simp only [World.size_alloc] at hs1
  have VR := (Var.new w 37 [.int .i64 0, .int .i64 0, .int .i64 0, .int .i64 0]).below hb1
  have hb0 : Below w.heap.size w w1 := ((Below.refl _ _).alloc (Nat.le_refl _) _).trans (hb1.mono (by simp))
  clear hb1
  go_wp2
  have VT2 := Var.new w1 37 [.int .i64 56, .int .i64 14, .int .i64 200, .int .i64 0]
  have VR2 := VR.alloc (.cells #[.int .i64 56, .int .i64 14, .int .i64 200, .int .i64 0] 37)
  have hb2 := hb0.alloc hb0.size (.cells #[.int .i64 56, .int .i64 14, .int .i64 200, .int .i64 0] 37)
  have hlt : w.heap.size < w1.heap.size := by omega
  have SL2 := Lib.hid hsl
  clear VR hb0 hs1 hsl
  change Var (w1.alloc (.cells #[.int .i64 56, .int .i64 14, .int .i64 200, .int .i64 0] 37)) _ _ _ at VT2
  generalize w1.alloc (.cells #[.int .i64 56, .int .i64 14, .int .i64 200, .int .i64 0] 37) = w2 at VT2 VR2 hb2 ⊢
  generalize w1.heap.size = tb at VT2 hlt ⊢
  generalize hB : w.heap.size = B at VR2 hb2 hlt hR ⊢
  have HB := Lib.hid hB
  clear hB
  go_loopw [7, 8] (fun e i wr => ∃ (k : Nat) (s v d b : Int), k ≤ len ∧ i = .int .i64 k ∧ e = .int .i64 0 ∧ Hid (Good s v d b ∧ Var wr tb 37 [.int .i64 s, .int .i64 v, .int .i64 d, .int .i64 b] ∧ Var wr B 37 [.int .i64 0, .int .i64 0, .int .i64 0, .int .i64 0] ∧ Below B w2 wr)) (fun _ i _ => len - (intOf i).toNat)
  case atStart => exact ⟨0, 56, 14, 200, 0, Nat.zero_le _, rfl, rfl, Lib.hid ⟨⟨by omega, by omega, by omega, by omega, by omega, by omega, by omega, by omega⟩, VT2, VR2, Below.refl _ _⟩⟩
  case round =>
    obtain ⟨k, s, v, d, b, hk, rfl, rfl, hH⟩ := hrel
    obtain ⟨hg, hT, hRr, hbr⟩ := hH.out
    have hsr := hbr.size
    obtain ⟨t0, t1, t2, t3, tf⟩ := hT.four
    obtain ⟨r0, r1, r2, r3, rf⟩ := hRr.four
    have htl := hT.lt
    have hrl := hRr.lt
    have HG := Lib.hid hg
    have HV := Lib.hid hT
    have HR := Lib.hid hRr
    have HBR := Lib.hid hbr
    clear hH hg hT hRr hbr
    by_cases hlt : k < len ∧ k < n
    · obtain ⟨hlt1, hlt2⟩ := hlt
      obtain ⟨bb, oo, rfl, hbb, hcc⟩ := (SL2.out.below (HB.out ▸ hb2.trans HBR.out)).get (by omega)
      have hz0 := hcc k (.int .i64 (zs.getD k 0)) (by simp [hzl, hlt1])
      clear hcc
      generalize zs.getD k 0 = z at hz0
      by_cases hneg : z < 0
      · have hb12 : b = 12 ∨ b < 12 := by have := HG.out.b1; omega
        rcases hb12 with rfl | hb12
        · go_wp2_with fail
          refine (back_full s v d _ HG.out).mono ?_
          rintro e v1 ⟨rfl, hm1⟩
          have hv1 := hm1.size
          have htl1 : tb < v1.heap.size := by omega
          obtain ⟨p0, p1, p2, p3, pf⟩ := (HV.out.below hm1).four
          have HM1 := Lib.hid hm1
          clear hm1
          go_wp2
          go_roundw
          case rel =>
            refine ⟨k + 1, _, _, _, _, by omega, by go_num, rfl, Lib.hid ⟨HG.out, ?_, ?_, ?_⟩⟩
            · exact (HV.out.below HM1.out).alloc _
            · exact (HR.out.below HM1.out).alloc _
            · exact (HBR.out.trans (HM1.out.mono (by omega))).alloc (by omega) _
          case measure => simp [intOf]; omega
        · have HG' : Hid (Good s v (min (2 * d) 60000) (b + 1)) := by
            obtain ⟨a1, a2, a3, a4, a5, a6, a7, a8⟩ := HG.out
            exact Lib.hid ⟨a1, a2, a3, a4, by omega, by omega, by omega, by omega⟩
          go_wp2_with fail
          refine (back_yes s v d b _ HG.out hb12).mono ?_
          rintro e v1 ⟨rfl, hm1⟩
          have hv1 := hm1.size
          have htl1 : tb < v1.heap.size := by omega
          obtain ⟨p0, p1, p2, p3, pf⟩ := (HV.out.below hm1).four
          have HM1 := Lib.hid hm1
          clear hm1
          generalize min (2 * d) 60000 = d' at HG' ⊢
          go_wp2
          go_roundw
          case rel =>
            refine ⟨k + 1, _, _, _, _, by omega, by go_num, rfl, Lib.hid ⟨HG'.out, ?_, ?_, ?_⟩⟩
            · exact (((((HV.out.below HM1.out).set 0 _).set 1 _).set 2 _).set 3 _).alloc _
            · exact (((((HR.out.below HM1.out).other (by omega) _ _).other (by omega) _ _).other (by omega) _ _).other (by omega) _ _).alloc _
            · have hfin : Below B w2 v1 := HBR.out.trans (HM1.out.mono (by omega))
              refine Below.alloc ?_ (by simp; omega) _
              repeat (first | refine Below.setCell ?_ (by simp; omega) _ | exact hfin)
          case measure => simp [intOf]; omega
      · have hm0 : 0 ≤ z % 1048577 ∧ z % 1048577 ≤ 1048576 := by omega
        have HN := Lib.hid (next_good s v d b (z % 1048577) HG.out hm0.1 hm0.2)
        have HM0 := Lib.hid hm0
        clear hm0
        go_wp2
        go_region_law (first | (refine step_call (picked_any z 1048577 _ (by omega) (by omega)) rfl (by simp [Region.wanted]) (by go_simp) ?_; rintro e v1 ⟨rfl, rfl⟩; refine ⟨_, rfl, ?_⟩) | (refine step_call (next_any s v d b (z % 1048577) _ HG.out HM0.out.1 HM0.out.2) rfl (by simp [Region.wanted]) (by go_simp) ?_; rintro e v1 ⟨rfl, hm1⟩; obtain ⟨p0, p1, p2, p3, pf⟩ := (HV.out.drew.below hm1).four; have HM1 := Lib.hid hm1; clear hm1; refine ⟨_, rfl, ?_⟩))
        all_goals
          go_wp2
          go_roundw
          case rel =>
            refine ⟨k + 1, _, _, _, _, by omega, by go_num, rfl, Lib.hid ⟨HN.out, ?_, ?_, ?_⟩⟩
            · exact ((((HV.out.drew.below HM1.out).set 0 _).set 1 _).set 2 _).set 3 _
            · exact (((((HR.out.drew.below HM1.out).other (by omega) _ _).other (by omega) _ _).other (by omega) _ _).other (by omega) _ _)
            · have hfin : Below B w2 v1 := HBR.out.drew.trans (HM1.out.mono (by simp; omega))
              repeat (first | refine Below.setCell ?_ (by simp; omega) _ | exact hfin)
          case measure => simp [intOf]; omega
    · have h00 : ((k : Int) < (len : Int)) ∧ ¬ ((k : Int) < (n : Int)) ∨ ¬ ((k : Int) < (len : Int)) := by omega
      rcases h00 with ⟨h01, h02⟩ | h01
      all_goals
        go_wp2
        go_region_law (first | (refine step_call (may_yes s v d b _ HG.out) rfl (by simp [Region.wanted, yielded]) (by go_simp) ?_; rintro e v1 ⟨rfl, hm1⟩; obtain ⟨q0, q1, q2, q3, qf⟩ := (HR.out.drew.below hm1).four; obtain ⟨p0, p1, p2, p3, pf⟩ := (HV.out.drew.below hm1).four; have HM1 := Lib.hid hm1; clear hm1; refine ⟨_, rfl, ?_⟩))
        all_goals
          go_wp2
          refine bodyPost_ret (v := (.tuple #[tv s v d b, .bool true])) (by simp [results, Try.results19, go_sem, q0, q1, q2, q3]) rfl ?_
          refine hR.out _ _ ⟨s, v, d, b, HG.out, rfl, ?_⟩
          have hfin : Below B w v1 := (hb2.trans HBR.out).drew.trans (HM1.out.mono (by simp; omega))
          repeat (first | refine Below.setCell ?_ (by simp) _ | exact hfin)
end rto
end Go.Proofs.Ytpfpjlhcmdpdkaa
