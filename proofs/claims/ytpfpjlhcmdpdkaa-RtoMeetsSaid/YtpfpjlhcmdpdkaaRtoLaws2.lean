/-
  THE WALKS OF RtoBetween, RtoMeets: each returns true. Conditions: none.
-/
import Derived.Test.YtpfpjlhcmdpdkaaRto
namespace Go.Proofs.Ytpfpjlhcmdpdkaa
open Go.RowKit rto
set_option linter.unusedVariables false

theorem between (s n : Int) : (s / 8 ≤ n ∧ s / 8 ≤ nS s n / 8 ∧ nS s n / 8 ≤ n) ∨ (n < s / 8 ∧ n ≤ nS s n / 8 ∧ nS s n / 8 ≤ s / 8) := by unfold nS; omega

set_option maxHeartbeats 1000000 in
theorem rtoBetween_walk (a0 : Option Addr) (len0 cap0 : Nat) (z0 : List Int) (a1 : Int) (w : World) (w0 : IsRow .i64 w a0 len0 cap0 z0) (w1 : (Lit.int .i64 a1).wf = true) :
    Calls Try.prog 9 #[.slice a0 len0 cap0, .int .i64 a1] w fun e w' => e = .returned (.bool true) ∧ Below w.heap.size w w' := by
  refine calls_hide fun R hR => ?_
  have hsl := w0.sl.1
  clear w0 w1
  go_enter Try.func9, Try.ntmps9
  go_wp2_with fail
  refine (timerOf_any _ _ _ _ 60 _ hsl (by omega)).mono ?_
  rintro e w1 ⟨s, v, d, b, hg, rfl, hb1⟩
  have hb1' := Lib.hid hb1
  have hs1 := hb1.size
  clear hsl hb1
  go_wp2_with fail
  have V1 := Var.new w1 37 [.int .i64 s, .int .i64 v, .int .i64 d, .int .i64 b]
  have hb2 := hb1'.out.alloc hs1 (.cells #[.int .i64 s, .int .i64 v, .int .i64 d, .int .i64 b] 37)
  change Var (w1.alloc (.cells #[.int .i64 s, .int .i64 v, .int .i64 d, .int .i64 b] 37)) _ _ _ at V1
  generalize w1.alloc (.cells #[.int .i64 s, .int .i64 v, .int .i64 d, .int .i64 b] 37) = w2 at V1 hb2 ⊢
  generalize w1.heap.size = tb at V1 hs1 ⊢
  have hs2 := hb2.size
  obtain ⟨t0, t1, t2, t3, tf⟩ := V1.four
  have htb := V1.lt
  refine (picked_any a1 1048577 _ (by omega) (by omega)).mono ?_
  rintro e w' ⟨rfl, rfl⟩
  have hm0 : 0 ≤ a1 % 1048577 ∧ a1 % 1048577 ≤ 1048576 := by omega
  generalize a1 % 1048577 = n at hm0
  have hbt := between s n
  have HG := Lib.hid hg
  have HM0 := Lib.hid hm0
  obtain ⟨hn1, hn2⟩ := hm0
  go_wp2_with fail
  refine (next_any s v d b n _ HG.out HM0.out.1 HM0.out.2).mono ?_
  rintro e w3 ⟨rfl, hb3⟩
  have V3 := V1.below hb3
  have hgs0 := HG.out.s0
  have hgs1 := HG.out.s1
  have hgs2 := (next_good s v d b n HG.out HM0.out.1 HM0.out.2).s0
  have hgs3 := (next_good s v d b n HG.out HM0.out.1 HM0.out.2).s1
  have hbf := hb2.trans (hb3.mono hs2)
  have hs3 := hb3.size
  generalize waits (nS s n) (nV s v n) = d'
  generalize nS s n = s' at hbt hgs2 hgs3
  generalize nV s v n = v'
  clear V1 hb3 t0 t1 t2 t3 tf hb2 hb1' hg
  obtain ⟨t0, t1, t2, t3, tf⟩ := V3.four
  have htb3 := V3.lt
  rcases hbt with ⟨h1, h2, h3⟩ | ⟨h1, h2, h3⟩
  all_goals
    go_wp2
    all_goals exact hR.out _ _ ⟨ret_bool (by first | rfl | (simp; omega)), hbf.alloc (by omega) _⟩

/-- rtoRun in which the same sample comes -/
def rtoRun (n : Int) : Nat → Int × Int → Int × Int
  | 0, p => p
  | k + 1, p => let q := rtoRun n k p; (nS q.1 n, nV q.1 q.2 n)

/-- how far the average is off, from above and from below; the spread behind that -/
def up (e : Nat) : Nat := e - e / 8
def dn (e : Nat) : Nat := e - (e + 7) / 8
def sp (e : Nat) : Nat := e - e / 4
def iter (f : Nat → Nat) : Nat → Nat → Nat
  | 0, x => x
  | k + 1, x => f (iter f k x)
theorem iter_mono (f : Nat → Nat) (hf : ∀ a b, a ≤ b → f a ≤ f b) (k : Nat) : ∀ a b, a ≤ b → iter f k a ≤ iter f k b := by
  induction k with
  | zero => intro a b h; exact h
  | succ k ih => intro a b h; exact hf _ _ (ih a b h)
theorem up_mono (a b : Nat) (h : a ≤ b) : up a ≤ up b := by unfold up; omega
theorem dn_mono (a b : Nat) (h : a ≤ b) : dn a ≤ dn b := by unfold dn; omega
theorem sp_mono (a b : Nat) (h : a ≤ b) : sp a ≤ sp b := by unfold sp; omega
theorem up_end : iter up 150 8388608 < 8 := by decide +kernel
theorem dn_end : iter dn 150 8388608 = 0 := by decide +kernel
theorem sp_end : iter sp 150 4194304 < 4 := by decide +kernel

theorem rtoRun_up (n s v : Int) (E : Nat) (hs : s = 8 * n + E) (k : Nat) : (rtoRun n k (s, v)).1 = 8 * n + iter up k E := by
  induction k with
  | zero => simpa [rtoRun, iter] using hs
  | succ k ih => simp only [rtoRun, ih, iter, nS, up]; omega
theorem rtoRun_dn (n s v : Int) (E : Nat) (hs : s = 8 * n - E) (k : Nat) : (rtoRun n k (s, v)).1 = 8 * n - iter dn k E := by
  induction k with
  | zero => simpa [rtoRun, iter] using hs
  | succ k ih => simp only [rtoRun, ih, iter, nS, dn]; omega
theorem rtoRun_add (n : Int) (p : Int × Int) (j k : Nat) : rtoRun n (j + k) p = rtoRun n k (rtoRun n j p) := by
  induction k with
  | zero => rfl
  | succ k ih =>
    show rtoRun n (j + k + 1) p = _
    simp only [rtoRun, ih]
theorem rtoRun_near (n s v : Int) (hs : s / 8 = n) (k : Nat) : (rtoRun n k (s, v)).1 = s := by
  induction k with
  | zero => rfl
  | succ k ih => simp only [rtoRun, ih, nS]; omega
theorem rtoRun_sp (n s : Int) (V : Nat) (hs : s / 8 = n) (k : Nat) : (rtoRun n k (s, (V : Int))).2 = iter sp k V := by
  induction k with
  | zero => rfl
  | succ k ih => simp only [rtoRun, ih, rtoRun_near n s _ hs k, iter, nV, sp]; omega
theorem rtoRun_good (n : Int) (hn : 0 ≤ n ∧ n ≤ 1048576) (s v : Int) (h : 0 ≤ s ∧ s ≤ 8388608 ∧ 0 ≤ v ∧ v ≤ 4194304) (k : Nat) :
    0 ≤ (rtoRun n k (s, v)).1 ∧ (rtoRun n k (s, v)).1 ≤ 8388608 ∧ 0 ≤ (rtoRun n k (s, v)).2 ∧ (rtoRun n k (s, v)).2 ≤ 4194304 := by
  induction k with
  | zero => exact h
  | succ k ih => simp only [rtoRun, nS, nV]; omega
theorem meets (n : Int) (hn : 0 ≤ n ∧ n ≤ 1048576) (s v : Int) (h : 0 ≤ s ∧ s ≤ 8388608 ∧ 0 ≤ v ∧ v ≤ 4194304) :
    (rtoRun n 300 (s, v)).1 / 8 = n ∧ 0 ≤ (rtoRun n 300 (s, v)).2 ∧ (rtoRun n 300 (s, v)).2 < 4 := by
  have h1 : (rtoRun n 150 (s, v)).1 / 8 = n := by
    by_cases hc : 8 * n ≤ s
    · obtain ⟨E, hE⟩ := Int.eq_ofNat_of_zero_le (show 0 ≤ s - 8 * n by omega)
      rw [rtoRun_up n s v E (by omega)]
      have := iter_mono up up_mono 150 E 8388608 (by omega)
      have := up_end
      omega
    · obtain ⟨E, hE⟩ := Int.eq_ofNat_of_zero_le (show 0 ≤ 8 * n - s by omega)
      rw [rtoRun_dn n s v E (by omega)]
      have := iter_mono dn dn_mono 150 E 8388608 (by omega)
      have := dn_end
      omega
  have h2 := rtoRun_good n hn s v h 150
  have e : rtoRun n 300 (s, v) = rtoRun n 150 (rtoRun n 150 (s, v)) := rtoRun_add n (s, v) 150 150
  rw [e]
  generalize rtoRun n 150 (s, v) = p at h1 h2
  obtain ⟨s', v'⟩ := p
  obtain ⟨V, hV⟩ := Int.eq_ofNat_of_zero_le h2.2.2.1
  simp only at hV h1 h2
  subst hV
  rw [rtoRun_near n s' _ h1, rtoRun_sp n s' V h1]
  have := iter_mono sp sp_mono 150 V 4194304 (by omega)
  have := sp_end
  omega

theorem rtoRun_pair (n : Int) (k : Nat) (p : Int × Int) (s v : Int) (h : rtoRun n k p = (s, v)) : rtoRun n (k + 1) p = (nS s n, nV s v n) := by
  simp only [rtoRun, h]

set_option maxRecDepth 100000 in
set_option maxHeartbeats 2000000 in
theorem rtoMeets_walk (a0 : Option Addr) (len0 cap0 : Nat) (z0 : List Int) (a1 : Int) (w : World) (w0 : IsRow .i64 w a0 len0 cap0 z0) (w1 : (Lit.int .i64 a1).wf = true) :
    Calls Try.prog 8 #[.slice a0 len0 cap0, .int .i64 a1] w fun e w' => e = .returned (.bool true) ∧ Below w.heap.size w w' := by
  refine calls_hide fun R hR => ?_
  have hsl := w0.sl.1
  clear w0 w1
  go_enter Try.func8, Try.ntmps8
  go_wp2_with fail
  refine (timerOf_any _ _ _ _ 30 _ hsl (by omega)).mono ?_
  rintro e w1 ⟨s, v, d, b, hg, rfl, hb1⟩
  have hb1' := Lib.hid hb1
  have hs1 := hb1.size
  clear hsl hb1
  go_wp2_with fail
  have V1 := Var.new w1 37 [.int .i64 s, .int .i64 v, .int .i64 d, .int .i64 b]
  have hb2 := hb1'.out.alloc hs1 (.cells #[.int .i64 s, .int .i64 v, .int .i64 d, .int .i64 b] 37)
  change Var (w1.alloc (.cells #[.int .i64 s, .int .i64 v, .int .i64 d, .int .i64 b] 37)) _ _ _ at V1
  generalize w1.alloc (.cells #[.int .i64 s, .int .i64 v, .int .i64 d, .int .i64 b] 37) = w2 at V1 hb2 ⊢
  generalize w1.heap.size = tb at V1 hs1 ⊢
  have hs2 := hb2.size
  refine (picked_any a1 1048577 _ (by omega) (by omega)).mono ?_
  rintro e w' ⟨rfl, rfl⟩
  have hm0 : 0 ≤ a1 % 1048577 ∧ a1 % 1048577 ≤ 1048576 := by omega
  generalize a1 % 1048577 = n at hm0
  have HM0 := Lib.hid hm0
  have HMEET : Hid (∀ k, k = 300 → (rtoRun n k (s, v)).1 / 8 = n ∧ 0 ≤ (rtoRun n k (s, v)).2 ∧ (rtoRun n k (s, v)).2 < 4) := Lib.hid (fun k hk => by subst hk; exact meets n hm0 s v ⟨hg.s0, hg.s1, hg.v0, hg.v1⟩)
  obtain ⟨hn1, hn2⟩ := hm0
  have HB2 := Lib.hid hb2
  clear hb1' hb2
  go_wp2_with fail
  go_loopw [6, 8] (fun ok i wr => ∃ (k : Nat) (s' v' d' b' : Int), k ≤ 300 ∧ i = .int .i64 k ∧ ok = .bool true ∧ Hid (rto.Good s' v' d' b' ∧ rtoRun n k (s, v) = (s', v') ∧ (0 < k → d' = waits s' v') ∧ Var wr tb 37 [.int .i64 s', .int .i64 v', .int .i64 d', .int .i64 b'] ∧ Below w.heap.size w wr)) (fun _ i _ => 300 - (intOf i).toNat)
  case atStart => exact ⟨0, s, v, d, b, by omega, rfl, rfl, Lib.hid ⟨hg, rfl, fun h => by omega, V1, HB2.out⟩⟩
  case round =>
    clear V1
    obtain ⟨k, s', v', d', b', hk, rfl, rfl, hH⟩ := hrel
    obtain ⟨hg', hr', hd', hT, hbr⟩ := hH.out
    have hsr := hbr.size
    have htl := hT.lt
    have HG := Lib.hid hg'
    have HRd := Lib.hid hr'
    have HDd := Lib.hid hd'
    have HV := Lib.hid hT
    have HBR := Lib.hid hbr
    clear hH hg' hr' hd' hT hbr
    by_cases hlt : k < 300
    · obtain ⟨t0, t1, t2, t3, tf⟩ := HV.out.four
      go_wp2_with fail
      refine (next_any s' v' d' b' n _ HG.out HM0.out.1 HM0.out.2).mono ?_
      rintro e v1 ⟨rfl, hm1⟩
      have HN := Lib.hid (next_good s' v' d' b' n HG.out HM0.out.1 HM0.out.2)
      have HR1 := Lib.hid (rtoRun_pair n k (s, v) s' v' HRd.out)
      have HW1 := Lib.hid (show waits (nS s' n) (nV s' v' n) = waits (nS s' n) (nV s' v' n) from rfl)
      have hv1 := hm1.size
      have htl1 : tb < v1.heap.size := by omega
      generalize hw : waits (nS s' n) (nV s' v' n) = d1 at HN ⊢
      have HW := Lib.hid hw
      clear HW1 hw
      generalize nS s' n = s1 at HN HR1 HW ⊢
      generalize nV s' v' n = v1' at HN HR1 HW ⊢
      clear t0 t1 t2 t3 tf
      obtain ⟨t0, t1, t2, t3, tf⟩ := (HV.out.below hm1).four
      have HM1 := Lib.hid hm1
      clear hm1
      go_wp2
      go_roundw
      case rel =>
        refine ⟨k + 1, s1, v1', d1, 0, by omega, by go_num, rfl, Lib.hid ⟨HN.out, HR1.out, fun _ => HW.out.symm, ?_, ?_⟩⟩
        · exact (((((HV.out.below HM1.out).set 0 _).set 1 _).set 2 _).set 3 _).alloc _
        · have hfin : Below w.heap.size w v1 := HBR.out.trans (HM1.out.mono (by omega))
          refine Below.alloc ?_ (by simp; omega) _
          repeat (first | refine Below.setCell ?_ (by simp; omega) _ | exact hfin)
      case measure => simp [intOf]; omega
    · obtain ⟨hm1, hm2, hm3⟩ := HMEET.out k (by omega)
      have hk3 : (k : Int) = 300 := by omega
      have hrd := HRd.out
      rw [hrd] at hm1 hm2 hm3
      simp only at hm1 hm2 hm3
      have hd1 := HDd.out (by omega)
      have hd2 : (n + v' < 200 ∧ d' = 200) ∨ (200 ≤ n + v' ∧ n + v' ≤ 60000 ∧ d' = n + v') ∨ (60000 < n + v' ∧ d' = 60000) := by
        rw [hd1]; unfold waits; omega
      have hs0 := HG.out.s0
      have hs1' := HG.out.s1
      obtain ⟨t0, t1, t2, t3, tf⟩ := HV.out.four
      have hq : (s' / 8 == n) = true := by simpa using hm1
      clear hd1 hrd hm1
      rcases hd2 with ⟨h1, rfl⟩ | ⟨h1, h2, rfl⟩ | ⟨h1, rfl⟩
      all_goals
        go_wp2
        exact hR.out _ _ ⟨rfl, HBR.out⟩
end Go.Proofs.Ytpfpjlhcmdpdkaa
