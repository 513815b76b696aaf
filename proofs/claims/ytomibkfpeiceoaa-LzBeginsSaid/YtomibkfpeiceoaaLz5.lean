/-
  THE LAWS LzRuns and LzBegins, by the kit.
-/
import Derived.Test.YtomibkfpeiceoaaLz3
import Derived.Test.YtomibkfpeiceoaaLzQ
namespace Go.Proofs.Ytomibkfpeiceoaa
open Go.RowKit
attribute [local irreducible] Ex G GC GE Gq FPost LPost
set_option linter.unusedVariables false
set_option linter.unusedSimpArgs false

namespace lz
theorem tok_eq {t u : Tok} (h1 : t.byte = u.byte) (h2 : t.dist = u.dist) (h3 : t.len = u.len) : t = u := by
  cases t; cases u; simp only at h1 h2 h3; subst h1 h2 h3; rfl
theorem g_app (X P : List UInt8) (j : Nat) : g (X ++ P) j = if j < X.length then g X j else g P (j - X.length) := by
  unfold g
  simp only [List.getD_eq_getElem?_getD]
  split
  · rw [List.getElem?_append_left (by assumption)]
  · rw [List.getElem?_append_right (by omega)]
set_option maxHeartbeats 4000000 in
theorem lzRuns_sp (a0 : Option Addr) (len0 cap0 : Nat) (z0 : List UInt8) (hl0 : z0.length = len0) (hb0 : len0 ≤ 9223372036854775807) (a1 : Int) (ha1 : -9223372036854775808 ≤ a1 ∧ a1 ≤ 9223372036854775807) :
    Spec Try.prog 8 [.slice a0 len0 cap0, .int .i64 a1] [.sl a0 len0 cap0 1 (flat eB z0)] fun v give => v = .bool true ∧ give = [] := by
  obtain ⟨N, hN, hN1⟩ : ∃ q : Nat, a1 % 20 = q ∧ q ≤ 19 := ⟨(a1 % 20).toNat, by omega, by omega⟩
  refine Spec.intro Try.func8 rfl Try.ntmps8 rfl fun w0 rest rs_ hrs_ => ?_
  simp only [List.cons_append, List.nil_append] at hrs_
  subst hrs_
  repeat (first | (apply G.ex (hd := rfl); case h => (first | exact Ex.move rfl | exact Ex.assign rfl)) | refine G.nil ?_ | refine GC.seq ?_ | refine GC.region ?_ | refine GE.then_normal ?_)
  first | refine G.call (caps := []) (octets_sp a0 len0 cap0 z0 hl0 hb0 60 (by omega)) rfl rfl rfl rfl (by repeat (first | exact Takes.nil | apply Takes.dup rfl | apply Takes.cons | exact Take1.here | apply Take1.there)) ?_ | refine G.callU (caps := []) (octets_sp a0 len0 cap0 z0 hl0 hb0 60 (by omega)) rfl rfl rfl (by repeat (first | exact Takes.nil | apply Takes.dup rfl | apply Takes.cons | exact Take1.here | apply Take1.there)) ?_
  rintro v_ give_ ⟨b1, c1, rfl, rfl⟩ rs_ hrs_
  simp only [List.cons_append, List.nil_append] at hrs_
  subst hrs_
  have hm : min len0 60 ≤ 60 := Nat.min_le_right ..
  have hxl : (z0.take 60 ++ [5]).length = min len0 60 + 1 := by simp; omega
  generalize min len0 60 = m at *
  repeat (first | fail)
  refine G.lit rfl (by rfl) (by rfl) (by rfl) (by rfl) (by rfl) (by rfl) rfl (fun y => ?_)
  refine G.app rfl rfl (by rfl) (by omega) rfl ((flat_append eB (z0.take 60) [5]).symm) (fun b2 c2 rs_ hrs_ => ?_)
  try simp only at hrs_
  subst hrs_
  refine G.drop ?_
  generalize z0.take 60 ++ [5] = P at *
  generalize hq : m + 1 = q at *
  have hq1 : 1 ≤ q ∧ q ≤ 61 := by omega
  repeat (first | (apply G.ex (hd := rfl); case h => (first | exact Ex.move rfl | exact Ex.assign rfl)) | refine G.nil ?_ | refine GC.seq ?_ | refine GC.region ?_ | refine GE.then_normal ?_)
  first | refine G.call (caps := []) (picked_sp a1 20 (by omega) (by omega)) rfl rfl rfl rfl (by repeat (first | exact Takes.nil | apply Takes.dup rfl | apply Takes.cons | exact Take1.here | apply Take1.there)) ?_ | refine G.callU (caps := []) (picked_sp a1 20 (by omega) (by omega)) rfl rfl rfl (by repeat (first | exact Takes.nil | apply Takes.dup rfl | apply Takes.cons | exact Take1.here | apply Take1.there)) ?_
  rintro v_ give_ ⟨rfl, rfl⟩ rs_ hrs_
  simp only [List.cons_append, List.nil_append] at hrs_
  subst hrs_
  rw [hN]
  repeat (first | (apply G.ex (hd := rfl); case h => (first | exact Ex.assign rfl)) | refine G.nil ?_ | refine GC.seq ?_ | refine GC.region ?_ | refine GC.block ?_ | refine GE.then_normal ?_)
  first | refine G.nilvec 5 1 ?_ | refine GC.nilvec 5 1 ?_
  refine GC.loop (ι := Nat × Option Addr × Nat × List UInt8) (fun i => i.1 ≤ N + 1 ∧ i.2.2.2.length = i.1 * q ∧ ∀ j, j < i.2.2.2.length → g i.2.2.2 j = g P (j % q)) (fun i => N + 1 - i.1) (fun i => [(5, .slice b2 q c2), (6, .int .i64 (N : Int)), (7, .slice i.2.1 i.2.2.2.length i.2.2.1), (8, .int .i64 (i.1 : Int))]) (fun i => [.vec 5 1 i.2.1 i.2.2.2.length i.2.2.1 (flat eB i.2.2.2), .vec 5 1 b2 q c2 (flat eB P)]) (0, none, 0, []) ⟨Nat.zero_le _, by simp, fun j h => absurd h (by simp)⟩ (by simp only [fits]; repeat (first | exact trivial | refine And.intro rfl ?_)) (by repeat (first | exact Takes.nil | apply Takes.dup rfl | apply Takes.cons | exact Take1.here | apply Take1.there)) ?_
  rintro ⟨i, xa, xc, X⟩ ⟨hi, hX, hg⟩ fr_ rs_ hfr_ hrs_
  simp only [List.cons_append, List.nil_append] at hfr_ hrs_
  subst hfr_ hrs_
  simp only at hi hX hg
  have hXb : X.length ≤ 20 * 61 := by rw [hX]; exact Nat.mul_le_mul (by omega) hq1.2
  repeat (first | (apply G.ex (hd := rfl); case h => (first | exact Ex.move rfl | exact Ex.leq rfl rfl)) | refine G.nil ?_ | refine GC.seq ?_ | refine GC.region ?_ | refine GE.then_normal ?_)
  refine GC.cond_dec rfl (fun hlt => ?_) (fun hlt => ?_)
  · have hlt : i ≤ N := by omega
    have hcat : flat eB X ++ flat eB P = flat eB (X ++ P) := (flat_append ..).symm
    have hX' : (X ++ P).length = (i + 1) * q := by rw [List.length_append, hX, hxl, Nat.succ_mul]
    have hg' : ∀ j, j < (X ++ P).length → g (X ++ P) j = g P (j % q) := by
      intro j hj
      rw [g_app]
      split
      · rename_i h; exact hg j h
      · rename_i h
        rw [hX] at h ⊢
        rw [hX'] at hj
        have hr : j - i * q < q := by rw [Nat.succ_mul] at hj; omega
        have e : j = j - i * q + q * i := by rw [Nat.mul_comm q i]; omega
        conv => rhs; rw [e]
        rw [Nat.add_mul_mod_self_left, Nat.mod_eq_of_lt hr]
    have hlen : X.length + q = (X ++ P).length := by rw [List.length_append, hxl]
    clear hX
    repeat (first | (apply G.ex (hd := rfl); case h => (first | exact Ex.move rfl)) | refine GC.seq ?_ | refine GC.region ?_ | refine GC.block ?_ | refine GC.skip ?_ | refine GE.then_normal ?_)
    refine G.app rfl rfl (by rfl) (by omega) rfl (hcat) (fun x2 d2 rs_ hrs_ => ?_)
    try simp only at hrs_
    subst hrs_
    rw [hlen]
    clear hcat hlen
    repeat (first | (apply G.ex (hd := rfl); case h => (first | exact Ex.move rfl | exact Ex.add rfl rfl (by omega) | exact Ex.assign rfl)) | refine G.nil ?_ | refine GC.region ?_ | refine GE.then_normal ?_ | refine GE.block_normal ?_)
    refine GE.loop (i + 1, x2, d2, X ++ P) ⟨by simp only; omega, hX', hg'⟩ (by simp only; omega) (by simp only [fits]; repeat (first | exact trivial | refine And.intro rfl ?_)) (by repeat (first | exact Takes.nil | apply Takes.dup rfl | apply Takes.cons | exact Take1.here | apply Take1.there)) (by repeat (first | exact Subs.refl | refine Subs.skip ?_))
  · have hiN : i = N + 1 := by omega
    have hper : ∀ j, j + q < X.length → g X (j + q) = g X j := fun j hj => by
      rw [hg (j + q) hj, hg j (by omega), Nat.add_mod_right]
    have hXq : X.length = N * q + q := by rw [hX, hiN, Nat.succ_mul]
    have hcnt := cnt_begin X q ⟨hq1.1, by omega⟩ hper q 0 (by omega) (Nat.zero_le _) (by omega)
    have hcl : cnt X 0 = (parse X).length := by unfold cnt parse; rw [Nat.sub_zero]
    rw [hcl, show X.length - q = N * q by omega, Nat.sub_zero] at hcnt
    have hmul : (N : Int) * (q : Int) = ((N * q : Nat) : Int) := (Int.natCast_mul N q).symm
    generalize hM : N * q = M at *
    have hMb : M ≤ 1220 := by omega
    clear hg hper hX hcl
    have hpl := parse_len X
    repeat (first | (apply G.ex (hd := rfl); case h => (first | exact Ex.move rfl)) | refine GC.seq ?_ | refine GC.region ?_ | refine GC.exit ?_ | refine GE.then_normal ?_ | refine GE.then_exit ?_ | refine GE.block_hit ?_)
    first | refine G.frz xa ?_ | refine GC.frz xa ?_ | refine GE.frz xa ?_
    first | refine G.call (caps := []) (parse_sp xa X.length xc X rfl (by omega)) rfl rfl rfl rfl (by repeat (first | exact Takes.nil | apply Takes.dup rfl | apply Takes.cons | exact Take1.here | apply Take1.there)) ?_ | refine G.callU (caps := []) (parse_sp xa X.length xc X rfl (by omega)) rfl rfl rfl (by repeat (first | exact Takes.nil | apply Takes.dup rfl | apply Takes.cons | exact Take1.here | apply Take1.there)) ?_
    rintro v_ give_ ⟨ta, tc, rfl, rfl⟩ rs_ hrs_
    simp only [List.cons_append, List.nil_append] at hrs_
    subst hrs_
    generalize (parse X).length = L at *
    repeat (first | (apply G.ex (hd := rfl); case h => (first | exact Ex.move rfl | exact Ex.eqI rfl rfl | exact Ex.extract rfl rfl | exact Ex.assign rfl)) | refine G.g_tt rfl rfl (by first | assumption | omega) ?_ | refine G.nil ?_ | refine GC.seq ?_ | refine GC.region ?_ | refine GE.then_normal ?_)
    first | refine G.call (caps := []) (sure_sp) rfl rfl rfl rfl (by repeat (first | exact Takes.nil | apply Takes.dup rfl | apply Takes.cons | exact Take1.here | apply Take1.there)) ?_ | refine G.callU (caps := []) (sure_sp) rfl rfl rfl (by repeat (first | exact Takes.nil | apply Takes.dup rfl | apply Takes.cons | exact Take1.here | apply Take1.there)) ?_
    rintro v_ give_ ⟨rfl, rfl⟩ rs_ hrs_
    simp only [List.cons_append, List.nil_append] at hrs_
    subst hrs_
    repeat (first | (apply G.ex (hd := rfl); case h => (first | exact Ex.move rfl | exact Ex.add rfl rfl (by omega) | exact Ex.leq rfl rfl | exact Ex.lenSl rfl | exact Ex.assign rfl | exact Ex.quo rfl rfl (by omega) | exact Ex.mul rfl rfl (by omega) | exact Ex.pickT rfl (by first | assumption | omega) rfl | exact Ex.pickLT rfl rfl)) | refine G.yes rfl rfl ?_ | refine G.nil ?_ | refine GC.ret ?_ | refine GE.then_normal ?_)
    refine GE.ret (by first | exact .inl rfl | exact .inr rfl) (by first | exact res0 Try.results8 | exact res1 Try.results8 rfl | exact res2 Try.results8 rfl rfl | exact resR1 Try.results8 (by first | exact RV.tmp rfl | exact RV.cell rfl rfl | exact RV.cell1 rfl) | exact resR2 Try.results8 (by first | exact RV.tmp rfl | exact RV.cell rfl rfl | exact RV.cell1 rfl) (by first | exact RV.tmp rfl | exact RV.cell rfl rfl | exact RV.cell1 rfl) | exact resR3 Try.results8 (by first | exact RV.tmp rfl | exact RV.cell rfl rfl | exact RV.cell1 rfl) (by first | exact RV.tmp rfl | exact RV.cell rfl rfl | exact RV.cell1 rfl) (by first | exact RV.tmp rfl | exact RV.cell rfl rfl | exact RV.cell1 rfl)) ⟨congrArg Value.bool (decide_eq_true (by rw [hmul]; omega)), rfl⟩ (by repeat (first | exact Takes.nil | apply Takes.dup rfl | apply Takes.cons | exact Take1.here | apply Take1.there)) (by repeat (first | exact Subs.refl | refine Subs.skip ?_))
set_option maxHeartbeats 4000000 in
theorem lzBegins_sp (a0 : Option Addr) (len0 cap0 : Nat) (z0 : List UInt8) (hl0 : z0.length = len0) (hb0 : len0 ≤ 9223372036854775807) (a1 : Int) (ha1 : -9223372036854775808 ≤ a1 ∧ a1 ≤ 9223372036854775807) (a2 : Int) (ha2 : -9223372036854775808 ≤ a2 ∧ a2 ≤ 9223372036854775807) :
    Spec Try.prog 9 [.slice a0 len0 cap0, .int .i64 a1, .int .i64 a2] [.sl a0 len0 cap0 1 (flat eB z0)] fun v give => v = .bool true ∧ give = [] := by
  have hk1 : 0 ≤ a1 % 20 ∧ a1 % 20 < 20 := by omega
  refine Spec.intro Try.func9 rfl Try.ntmps9 rfl fun w0 rest rs_ hrs_ => ?_
  simp only [List.cons_append, List.nil_append] at hrs_
  subst hrs_
  repeat (first | (apply G.ex (hd := rfl); case h => (first | exact Ex.move rfl | exact Ex.assign rfl)) | refine G.nil ?_ | refine GC.seq ?_ | refine GC.region ?_ | refine GE.then_normal ?_)
  first | refine G.call (caps := []) (picked_sp a1 20 (by omega) (by omega)) rfl rfl rfl rfl (by repeat (first | exact Takes.nil | apply Takes.dup rfl | apply Takes.cons | exact Take1.here | apply Take1.there)) ?_ | refine G.callU (caps := []) (picked_sp a1 20 (by omega) (by omega)) rfl rfl rfl (by repeat (first | exact Takes.nil | apply Takes.dup rfl | apply Takes.cons | exact Take1.here | apply Take1.there)) ?_
  rintro v_ give_ ⟨rfl, rfl⟩ rs_ hrs_
  simp only [List.cons_append, List.nil_append] at hrs_
  subst hrs_
  repeat (first | (apply G.ex (hd := rfl); case h => (first | exact Ex.add rfl rfl (by omega))))
  first | refine G.call (caps := []) (few_sp a0 len0 cap0 z0 hl0 hb0 (1 + a1 % 20) (by omega) (by omega) 300 (by omega)) rfl rfl rfl rfl (by repeat (first | exact Takes.nil | apply Takes.dup rfl | apply Takes.cons | exact Take1.here | apply Take1.there)) ?_ | refine G.callU (caps := []) (few_sp a0 len0 cap0 z0 hl0 hb0 (1 + a1 % 20) (by omega) (by omega) 300 (by omega)) rfl rfl rfl (by repeat (first | exact Takes.nil | apply Takes.dup rfl | apply Takes.cons | exact Take1.here | apply Take1.there)) ?_
  rintro v_ give_ ⟨xa, xc, X, rfl, hX, rfl⟩ rs_ hrs_
  simp only [List.cons_append, List.nil_append] at hrs_
  subst hrs_
  have hN : min len0 300 ≤ 300 := Nat.min_le_right ..
  generalize min len0 300 = N at *
  repeat (first | (apply G.ex (hd := rfl); case h => (first | exact Ex.move rfl | exact Ex.add rfl rfl (by omega) | exact Ex.lenSl rfl | exact Ex.assign rfl)) | refine G.nil ?_ | refine GC.seq ?_ | refine GC.region ?_ | refine GE.then_normal ?_)
  first | refine G.call (caps := []) (picked_sp a2 ((N : Int) + 1) (by omega) (by omega)) rfl rfl rfl rfl (by repeat (first | exact Takes.nil | apply Takes.dup rfl | apply Takes.cons | exact Take1.here | apply Take1.there)) ?_ | refine G.callU (caps := []) (picked_sp a2 ((N : Int) + 1) (by omega) (by omega)) rfl rfl rfl (by repeat (first | exact Takes.nil | apply Takes.dup rfl | apply Takes.cons | exact Take1.here | apply Take1.there)) ?_
  rintro v_ give_ ⟨rfl, rfl⟩ rs_ hrs_
  simp only [List.cons_append, List.nil_append] at hrs_
  subst hrs_
  obtain ⟨n, hn, hn1⟩ : ∃ q : Nat, a2 % ((N : Int) + 1) = q ∧ q ≤ N := ⟨(a2 % ((N : Int) + 1)).toNat, by have := Int.emod_nonneg a2 (show (N : Int) + 1 ≠ 0 by omega); omega, by have := Int.emod_nonneg a2 (show (N : Int) + 1 ≠ 0 by omega); have := Int.emod_lt_of_pos a2 (show 0 < (N : Int) + 1 by omega); omega⟩
  rw [hn]
  first | refine G.frz xa ?_ | refine GC.frz xa ?_ | refine GE.frz xa ?_
  repeat (first | (apply G.ex (hd := rfl); case h => (first | exact Ex.move rfl | exact Ex.assign rfl)) | refine G.nil ?_ | refine GC.seq ?_ | refine GC.region ?_ | refine GE.then_normal ?_)
  refine G.appNil rfl rfl (by rfl) (by omega) rfl (rfl) (fun ya yc => ?_)
  first | refine G.frz ya ?_ | refine GC.frz ya ?_ | refine GE.frz ya ?_
  repeat (first | fail)
  first | refine G.call (caps := []) (parse_sp ya N yc X hX (by omega)) rfl rfl rfl rfl (by repeat (first | exact Takes.nil | apply Takes.dup rfl | apply Takes.cons | exact Take1.here | apply Take1.there)) ?_ | refine G.callU (caps := []) (parse_sp ya N yc X hX (by omega)) rfl rfl rfl (by repeat (first | exact Takes.nil | apply Takes.dup rfl | apply Takes.cons | exact Take1.here | apply Take1.there)) ?_
  rintro v_ give_ ⟨ta, tc, rfl, rfl⟩ rs_ hrs_
  simp only [List.cons_append, List.nil_append] at hrs_
  subst hrs_
  repeat (first | (apply G.ex (hd := rfl); case h => (first | exact Ex.move rfl | exact Ex.extract rfl rfl | exact Ex.assign rfl)) | refine G.nil ?_ | refine GC.seq ?_ | refine GC.region ?_ | refine GE.then_normal ?_)
  refine G.sub (l := 0) (r := n) rfl rfl (by first | exact .inl ⟨rfl, rfl⟩ | exact .inr ⟨_, _, rfl, ev_int rfl (by omega)⟩) (by first | exact .inl ⟨rfl, rfl⟩ | exact .inr ⟨_, _, rfl, ev_int rfl (by omega)⟩) (by omega) rfl (rfl) (fun s1 => ?_)
  rw [flat_cut (enc := eB) (s := 1) inferInstance X 0 n]
  simp only [Nat.sub_zero, List.drop_zero]
  have hYl : (X.take n).length = n := by rw [List.length_take]; omega
  refine G.appNil rfl rfl (by rfl) (by omega) rfl (rfl) (fun wa wc => ?_)
  first | refine G.frz wa ?_ | refine GC.frz wa ?_ | refine GE.frz wa ?_
  repeat (first | fail)
  first | refine G.call (caps := []) (parse_sp wa n wc (X.take n) hYl (by omega)) rfl rfl rfl rfl (by repeat (first | exact Takes.nil | apply Takes.dup rfl | apply Takes.cons | exact Take1.here | apply Take1.there)) ?_ | refine G.callU (caps := []) (parse_sp wa n wc (X.take n) hYl (by omega)) rfl rfl rfl (by repeat (first | exact Takes.nil | apply Takes.dup rfl | apply Takes.cons | exact Take1.here | apply Take1.there)) ?_
  rintro v_ give_ ⟨sa, sc, rfl, rfl⟩ rs_ hrs_
  simp only [List.cons_append, List.nil_append] at hrs_
  subst hrs_
  repeat (first | (apply G.ex (hd := rfl); case h => (first | exact Ex.move rfl | exact Ex.neI rfl rfl | exact Ex.extract rfl rfl | exact Ex.assign rfl | exact Ex.pickF rfl (by first | assumption | omega) rfl)) | refine G.g_ff rfl rfl (by first | assumption | omega) ?_ | refine G.nil ?_ | refine GC.seq ?_ | refine GC.region ?_ | refine GE.then_normal ?_)
  first | refine G.call (caps := []) (sure_sp) rfl rfl rfl rfl (by repeat (first | exact Takes.nil | apply Takes.dup rfl | apply Takes.cons | exact Take1.here | apply Take1.there)) ?_ | refine G.callU (caps := []) (sure_sp) rfl rfl rfl (by repeat (first | exact Takes.nil | apply Takes.dup rfl | apply Takes.cons | exact Take1.here | apply Take1.there)) ?_
  rintro v_ give_ ⟨rfl, rfl⟩ rs_ hrs_
  simp only [List.cons_append, List.nil_append] at hrs_
  subst hrs_
  have hpl := parse_len X
  have hpl2 := parse_len (X.take n)
  have hpm : ∀ b : List UInt8, pm b (b.length - 0) 0 = parse b := fun b => rfl
  repeat (first | (apply G.ex (hd := rfl); case h => (first | exact Ex.assign rfl | exact Ex.notB rfl | exact Ex.pickF rfl (by first | assumption | omega) rfl)) | refine G.g_ff rfl rfl (by first | assumption | omega) ?_ | refine G.nil ?_ | refine GC.seq ?_ | refine GC.region ?_ | refine GC.block ?_ | refine GC.skip ?_ | refine GE.then_normal ?_ | refine GC.cond_f rfl ?_)
  refine GC.loop (ι := Nat × Nat) (fun i => i.1 ≤ (parse X).length ∧ i.2 ≤ n ∧ (parse X).drop i.1 = pm X (N - i.2) i.2 ∧ (parse (X.take n)).drop i.1 = pm (X.take n) (n - i.2) i.2) (fun i => (parse X).length - i.1) (fun i => [(8, .int .i64 (n : Int)), (9, .slice ta (parse X).length tc), (11, .slice sa (parse (X.take n)).length sc), (13, .int .i64 (i.2 : Int)), (14, .int .i64 (i.1 : Int))]) (fun i => [.sl ta (parse X).length tc 3 (flat eT (parse X)), .sl sa (parse (X.take n)).length sc 3 (flat eT (parse (X.take n)))]) (0, 0) ⟨Nat.zero_le _, Nat.zero_le _, by rw [List.drop_zero, ← hX]; rfl, by rw [List.drop_zero]; unfold parse; rw [hYl]; rfl⟩ (by simp only [fits]; repeat (first | exact trivial | refine And.intro rfl ?_)) (by repeat (first | exact Takes.nil | apply Takes.dup rfl | apply Takes.cons | exact Take1.here | apply Take1.there)) ?_
  rintro ⟨i, a⟩ ⟨hi, ha, hd1, hd2⟩ fr_ rs_ hfr_ hrs_
  simp only [List.cons_append, List.nil_append] at hfr_ hrs_
  subst hfr_ hrs_
  simp only at hi ha hd1 hd2
  by_cases hp : i < (parse (X.take n)).length
  · have han : a < n := by
      apply Decidable.byContradiction
      intro hc
      have : n - a = 0 := by omega
      rw [this] at hd2
      have h0 : ((parse (X.take n)).drop i).length = 0 := by rw [hd2]; rfl
      rw [List.length_drop] at h0
      omega
    have hs1 := pm_step X a (by omega)
    have hs2 := pm_step (X.take n) a (by omega)
    rw [hX] at hs1
    rw [hYl] at hs2
    rw [hs1] at hd1
    rw [hs2] at hd2
    obtain ⟨u1, u2, u3⟩ := drop_get _ _ _ _ hd1
    obtain ⟨v1, v2, v3⟩ := drop_get _ _ _ _ hd2
    clear hd1 hd2 hs1 hs2
    have htk := tok_take X n a (by omega) han
    have hw := tok_wide X a (by omega)
    have hwp := wide_pos (tok X a)
    have hw2 := tok_wide (X.take n) a (by omega)
    rw [hYl, ← v2] at hw2
    have hlenb := (tok_ok X a).ln
    rw [← u2] at htk hw hwp u3 hlenb
    rw [← v2] at htk v3
    have hl300 : ((parse X).getD i default).len ≤ 300 := by
      by_cases h0 : 0 < ((parse X).getD i default).len
      · have := hlenb h0; omega
      · omega
    clear u2 v2 hlenb
    repeat (first | (apply G.ex (hd := rfl); case h => (first | exact Ex.move rfl | exact Ex.lss rfl rfl | exact Ex.lenSl rfl | exact Ex.pickT rfl (by first | assumption | omega) rfl)) | refine G.g_tt rfl rfl (by first | assumption | omega) ?_ | refine G.nil ?_ | (apply Gq.ex (hd := rfl); case h => (first | exact Ex.move rfl | exact Ex.indexN rfl rfl (by first | omega | (simp; done) | (simp; omega)) | exact Ex.loadTA rfl (by first | omega | (simp; done) | (simp; omega)) | exact Ex.neA rfl rfl rfl)) | refine Gq.nil ?_ | refine GC.seq ?_ | refine GC.region ?_ | refine GC.draw (by kernel_rfl) (by kernel_rfl) ?_ | refine GC.block ?_ | refine GC.skip ?_ | refine GE.then_normal ?_ | refine GC.cond_yes rfl (by first | assumption | omega) ?_)
    refine GC.cond_dec rfl (fun hne => ?_) (fun hne => ?_)
    · have hgt : n < a + wide ((parse X).getD i default) := by
        apply Decidable.byContradiction
        intro hc
        apply hne
        rw [htk (by omega)]
        simp
      unfold wide at hgt
      clear hne htk u3 v3 hw hwp hw2
      repeat (first | (apply G.ex (hd := rfl); case h => (first | exact Ex.move rfl | exact Ex.fieldE rfl | exact Ex.add rfl rfl (by omega) | exact Ex.gtr rfl rfl | exact Ex.indexN rfl rfl (by first | omega | (simp; done) | (simp; omega)) | exact Ex.loadT rfl (by first | omega | (simp; done) | (simp; omega)) rfl | exact Ex.assign rfl | exact Ex.max rfl rfl)) | refine G.nil ?_ | refine GC.seq ?_ | refine GC.region ?_ | refine GC.ret ?_ | refine GE.then_normal ?_ | refine GE.then_ret ?_ | refine GE.block_ret ?_)
      refine GE.ret (by first | exact .inl rfl | exact .inr rfl) (by first | exact res0 Try.results9 | exact res1 Try.results9 rfl | exact res2 Try.results9 rfl rfl | exact resR1 Try.results9 (by first | exact RV.tmp rfl | exact RV.cell rfl rfl | exact RV.cell1 rfl) | exact resR2 Try.results9 (by first | exact RV.tmp rfl | exact RV.cell rfl rfl | exact RV.cell1 rfl) (by first | exact RV.tmp rfl | exact RV.cell rfl rfl | exact RV.cell1 rfl) | exact resR3 Try.results9 (by first | exact RV.tmp rfl | exact RV.cell rfl rfl | exact RV.cell1 rfl) (by first | exact RV.tmp rfl | exact RV.cell rfl rfl | exact RV.cell1 rfl) (by first | exact RV.tmp rfl | exact RV.cell rfl rfl | exact RV.cell1 rfl)) ⟨congrArg Value.bool (decide_eq_true (by omega)), rfl⟩ (by repeat (first | exact Takes.nil | apply Takes.dup rfl | apply Takes.cons | exact Take1.here | apply Take1.there)) (by repeat (first | exact Subs.refl | refine Subs.skip ?_))
    · have e : (parse (X.take n)).getD i default = (parse X).getD i default := by
        generalize (parse (X.take n)).getD i default = t1 at hne ⊢
        generalize (parse X).getD i default = t2 at hne ⊢
        have h := Decidable.not_not.1 hne
        simp at h
        exact tok_eq (UInt8.toNat_inj.1 (by omega)) (by omega) (by omega)
      rw [e] at v3
      clear hne htk
      have hwd : (a : Int) + max ((((parse X).getD i default).len : Nat) : Int) 1 = ((a + wide ((parse X).getD i default) : Nat) : Int) := by unfold wide; omega
      by_cases hle : a + wide ((parse X).getD i default) ≤ n
      · repeat (first | (apply G.ex (hd := rfl); case h => (first | exact Ex.move rfl | exact Ex.fieldE rfl | exact Ex.add rfl rfl (by omega) | exact Ex.indexN rfl rfl (by first | omega | (simp; done) | (simp; omega)) | exact Ex.loadT rfl (by first | omega | (simp; done) | (simp; omega)) rfl | exact Ex.assign rfl | exact Ex.max rfl rfl)) | refine G.nil ?_ | refine GC.region ?_ | refine GC.skip ?_ | refine GE.then_normal ?_ | refine GE.block_normal ?_)
        rw [hwd]
        repeat (first | fail)
        refine GE.loop (i + 1, a + wide ((parse X).getD i default)) ⟨by simp only; omega, by simp only; omega, u3, v3⟩ (by simp only; omega) (by simp only [fits]; repeat (first | exact trivial | refine And.intro rfl ?_)) (by repeat (first | exact Takes.nil | apply Takes.dup rfl | apply Takes.cons | exact Take1.here | apply Take1.there)) (by repeat (first | exact Subs.refl | refine Subs.skip ?_))
      · exfalso
        rw [e] at hw2
        omega
  · have hple : (parse (X.take n)).length ≤ i := by omega
    repeat (first | (apply G.ex (hd := rfl); case h => (first | exact Ex.move rfl | exact Ex.lss rfl rfl | exact Ex.leq rfl rfl | exact Ex.lenSl rfl | exact Ex.assign rfl | exact Ex.pickF rfl (by first | assumption | omega) rfl)) | refine G.g_tf rfl rfl (by first | assumption | omega) rfl ?_ | refine G.nil ?_ | refine GC.seq ?_ | refine GC.region ?_ | refine GC.ret ?_ | refine GC.exit ?_ | refine GE.then_normal ?_ | refine GE.then_exit ?_ | refine GE.block_hit ?_ | refine GC.cond_f rfl ?_)
    refine GE.ret (by first | exact .inl rfl | exact .inr rfl) (by first | exact res0 Try.results9 | exact res1 Try.results9 rfl | exact res2 Try.results9 rfl rfl | exact resR1 Try.results9 (by first | exact RV.tmp rfl | exact RV.cell rfl rfl | exact RV.cell1 rfl) | exact resR2 Try.results9 (by first | exact RV.tmp rfl | exact RV.cell rfl rfl | exact RV.cell1 rfl) (by first | exact RV.tmp rfl | exact RV.cell rfl rfl | exact RV.cell1 rfl) | exact resR3 Try.results9 (by first | exact RV.tmp rfl | exact RV.cell rfl rfl | exact RV.cell1 rfl) (by first | exact RV.tmp rfl | exact RV.cell rfl rfl | exact RV.cell1 rfl) (by first | exact RV.tmp rfl | exact RV.cell rfl rfl | exact RV.cell1 rfl)) ⟨congrArg Value.bool (decide_eq_true (by omega)), rfl⟩ (by repeat (first | exact Takes.nil | apply Takes.dup rfl | apply Takes.cons | exact Take1.here | apply Take1.there)) (by repeat (first | exact Subs.refl | refine Subs.skip ?_))
end lz
end Go.Proofs.Ytomibkfpeiceoaa
