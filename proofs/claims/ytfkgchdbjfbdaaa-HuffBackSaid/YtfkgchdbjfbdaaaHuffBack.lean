/-
  CONTRACT of packthreadkeep.HuffBack, by the kit.
-/
import Derived.Test.YtfkgchdbjfbdaaaDecode
import Derived.Test.YtfkgchdbjfbdaaaHuffTwice
namespace Go.Proofs.Ytfkgchdbjfbdaaa
open Go.RowKit
attribute [local irreducible] Ex G GC GE Gq FPost LPost
set_option linter.unusedVariables false
set_option linter.unusedSimpArgs false
namespace huff
open sort
def ints (S : List Nat) : List Int := S.map fun s : Nat => (s : Int)
theorem eN_eI (S : List Nat) : flat eN S = flat (eI .i64) (ints S) := by
  induction S with
  | nil => rfl
  | cons s S ih => show eN s ++ flat eN S = eI .i64 (s : Int) ++ flat (eI .i64) (ints S); rw [ih]; rfl
set_option maxHeartbeats 32000000 in
theorem huffBack_sp (a0 : Option Addr) (len0 cap0 : Nat) (z0 : List Int) (hl0 : z0.length = len0) (hb0 : len0 ≤ 9223372036854775807) (hw0 : ∀ z ∈ z0, -9223372036854775808 ≤ z ∧ z ≤ 9223372036854775807) (a1 : Option Addr) (len1 cap1 : Nat) (z1 : List Int) (hl1 : z1.length = len1) (hb1 : len1 ≤ 9223372036854775807) (hw1 : ∀ z ∈ z1, -9223372036854775808 ≤ z ∧ z ≤ 9223372036854775807) (a2 : Option Addr) (len2 cap2 : Nat) (z2 : List UInt8) (hl2 : z2.length = len2) (hb2 : len2 ≤ 140737488351232) :
    Spec Try.prog 8 [.slice a0 len0 cap0, .slice a1 len1 cap1, .slice a2 len2 cap2] [.sl a0 len0 cap0 1 (flat (eI .i64) z0), .sl a1 len1 cap1 1 (flat (eI .i64) z1), .sl a2 len2 cap2 1 (flat eB z2)] fun v give => v = .bool true ∧ give = [] := by
  refine Spec.intro Try.func8 rfl Try.ntmps8 rfl fun w0 rest rs_ hrs_ => ?_
  simp only [List.cons_append, List.nil_append] at hrs_
  subst hrs_
  repeat (first | (apply G.ex (hd := rfl); case h => (first | exact Ex.move rfl | exact Ex.assign rfl)) | refine G.nil ?_ | refine GC.seq ?_ | refine GC.region ?_ | refine GE.then_normal ?_)
  first | refine G.call (caps := []) (counts_sp a0 len0 cap0 z0 hl0 hb0 hw0 40 (by decide)) rfl rfl rfl rfl (by repeat first | exact tn_ | apply td_ rfl | apply tc_ | exact .here | apply Take1.there) ?_ | refine G.callU (caps := []) (counts_sp a0 len0 cap0 z0 hl0 hb0 hw0 40 (by decide)) rfl rfl rfl (by repeat first | exact tn_ | apply td_ rfl | apply tc_ | exact .here | apply Take1.there) ?_
  rintro v_ give_ ⟨C0, ca0, cc0, hC, rfl, rfl⟩ rs_ hrs_
  simp only [List.cons_append, List.nil_append] at hrs_
  subst hrs_
  have hCn : C0.length ≤ 40 := by rw [hC, List.length_map, List.length_take]; omega
  have hCi0 : ∀ z ∈ C0, 0 ≤ z ∧ z ≤ 1048576 := by rw [hC]; exact counts_in
  clear hC
  have hcat0 : flat (eI .i64) C0 ++ flat (eI .i64) [3] = flat (eI .i64) (C0 ++ [3]) := (flat_append ..).symm
  repeat (first | fail)
  refine G.lit (cells := flat (eI .i64) [3]) rfl (by rfl) (by rfl) (by rfl) (by rfl) (by rfl) (by rfl) rfl (fun q3 => ?_)
  refine G.app rfl rfl (by rfl) (by omega) rfl (hcat0) (fun ca cc rs_ hrs_ => ?_)
  try simp only at hrs_
  subst hrs_
  obtain ⟨C, hCe⟩ : ∃ C, C0 ++ [3] = C := ⟨_, rfl⟩
  obtain ⟨n, hn⟩ : ∃ n, C0.length + 1 = n := ⟨_, rfl⟩
  have hCl : C.length = n := by rw [← hCe, List.length_append]; exact hn
  have hCi : ∀ z ∈ C, 0 ≤ z ∧ z ≤ 1048576 := fun z hz => by
    rw [← hCe] at hz
    rcases List.mem_append.1 hz with h | h
    · exact hCi0 z h
    · rw [List.mem_singleton.1 h]; decide
  have hlast : C.getD (n - 1) default = 3 := by
    rw [← hCe, List.getD_eq_getElem?_getD, List.getElem?_append_right (by omega), show n - 1 - C0.length = 0 by omega]; rfl
  rw [hCe, hn]
  have hn0 : 0 < n := by omega
  have hn41 : n ≤ 41 := by omega
  clear hCi0 hcat0 hCe hCn hn
  repeat (first | (apply G.ex (hd := rfl); case h => (first | exact Ex.move rfl | exact Ex.assign rfl)) | refine G.nil ?_ | refine GC.seq ?_ | refine GC.region ?_ | refine GE.then_normal ?_)
  first | refine G.call (caps := []) (lengthsOf_sp (.vec 3 1 ca n cc (flat (eI .i64) C)) ca n cc C hCl (by omega) hCi) rfl rfl rfl rfl (by repeat first | exact tn_ | apply td_ rfl | apply tc_ | exact .here | apply Take1.there) ?_ | refine G.callU (caps := []) (lengthsOf_sp (.vec 3 1 ca n cc (flat (eI .i64) C)) ca n cc C hCl (by omega) hCi) rfl rfl rfl (by repeat first | exact tn_ | apply td_ rfl | apply tc_ | exact .here | apply Take1.there) ?_
  rintro v_ give_ ⟨out, oa, oc, hol, h0, hg, rfl, rfl⟩ rs_ hrs_
  simp only [List.cons_append, List.nil_append] at hrs_
  subst hrs_
  have m : May (cN out) n := hg.may hn41
  have vo : ∀ i, i < n → out.getD i default = ((cN out i : Nat) : Int) := fun i hi => by
    have := h0 (out.getD i default) (getD_in (by omega))
    unfold cN; omega
  have pos : ∀ i, i < n → ¬ C.getD i default = 0 → 0 < cN out i := fun i hi hz => by
    have h1 := hCi (C.getD i default) (getD_in (by omega))
    have h2 : cN C i = (C.getD i default).toNat := rfl
    exact (hg.some i hi (by omega)).1
  clear hg
  first | refine G.frz oa ?_ | refine GC.frz oa ?_ | refine GE.frz oa ?_
  repeat (first | (apply G.ex (hd := rfl); case h => (first | exact Ex.move rfl | exact Ex.extract rfl rfl | exact Ex.assign rfl | exact Ex.notB rfl)) | refine G.nil ?_ | refine GC.seq ?_ | refine GC.region ?_ | refine GC.block ?_ | refine GC.skip ?_ | refine GE.then_normal ?_ | refine GC.cond_f rfl ?_)
  first | refine G.nilvec 3 1 ?_ | refine GC.nilvec 3 1 ?_
  repeat (first | fail)
  refine GC.loop (ι := Nat × List Nat × Option Addr × Nat) (fun x => x.1 ≤ len1 ∧ x.1 ≤ 100 ∧ x.2.1.length = x.1 ∧ (∀ s ∈ x.2.1, s < n ∧ 0 < cN out s)) (fun x => len1 - x.1) (fun x => [(1, .slice a1 len1 cap1), (2, .slice a2 len2 cap2), (7, .slice ca n cc), (8, .slice oa n oc), (11, .slice x.2.2.1 x.1 x.2.2.2), (12, .int .i64 ((allLen (cN out) x.2.1 : Nat) : Int)), (13, .int .i64 (x.1 : Int))]) (fun x => [DR x.2.2.1 x.1 x.2.2.2 x.2.1, .vec 3 1 ca n cc (flat (eI .i64) C), LS oa n oc out, .sl a1 len1 cap1 1 (flat (eI .i64) z1), .sl a2 len2 cap2 1 (flat eB z2)]) (0, [], none, 0) ⟨Nat.zero_le _, Nat.zero_le _, rfl, fun s hs => (nomatch hs)⟩ (by simp only [fits]; repeat (first | exact trivial | refine And.intro rfl ?_)) (by repeat first | exact tn_ | apply td_ rfl | apply tc_ | exact .here | apply Take1.there) ?_
  rintro ⟨i, S, sa, sc⟩ ⟨hi1, hi2, hSl, hin⟩ fr_ rs_ hfr_ hrs_
  simp only [List.cons_append, List.nil_append] at hfr_ hrs_
  subst hfr_ hrs_
  simp only at hi1 hi2 hSl hin
  have hbits := allLen_bd (cN out) (S := S) (fun s hs => m.le s (hin s hs).1)
  by_cases c : i < len1 ∧ i < 100
  · obtain ⟨c1, c2⟩ := c
    have c1' : (i : Int) < (len1 : Int) := by omega
    have c2' : (i : Int) < 100 := by omega
    have hzb := hw1 (z1.getD i default) (getD_in (by omega))
    have hk0 := Int.emod_nonneg (z1.getD i default) (show (n : Int) ≠ 0 by omega)
    have hk1 := Int.emod_lt_of_pos (z1.getD i default) (show (0 : Int) < (n : Int) by omega)
    obtain ⟨t, ht⟩ : ∃ t : Nat, z1.getD i default % (n : Int) = (t : Int) := ⟨(z1.getD i default % (n : Int)).toNat, by omega⟩
    have htn : t < n := by omega
    repeat (first | (apply G.ex (hd := rfl); case h => (first | exact Ex.move rfl | exact Ex.lss rfl rfl | exact Ex.lenSl rfl | exact Ex.indexN rfl rfl (by first | omega | (simp; done) | (simp; omega)) | exact Ex.loadT0 rfl (by first | omega | (simp; done) | (simp; omega)) rfl | exact Ex.pickT rfl (by first | assumption | omega) rfl)) | refine G.g_tt rfl rfl (by first | assumption | omega) ?_ | refine G.nil ?_ | refine GC.seq ?_ | refine GC.region ?_ | refine GC.block ?_ | refine GC.skip ?_ | refine GE.then_normal ?_ | refine GC.cond_yes rfl (by first | assumption | omega) ?_)
    first | refine G.call (caps := []) (picked_sp (z1.getD i default) (n : Int) (by omega) (by omega)) rfl rfl rfl rfl (by repeat first | exact tn_ | apply td_ rfl | apply tc_ | exact .here | apply Take1.there) ?_ | refine G.callU (caps := []) (picked_sp (z1.getD i default) (n : Int) (by omega) (by omega)) rfl rfl rfl (by repeat first | exact tn_ | apply td_ rfl | apply tc_ | exact .here | apply Take1.there) ?_
    rintro v_ give_ ⟨rfl, rfl⟩ rs_ hrs_
    simp only [List.cons_append, List.nil_append] at hrs_
    subst hrs_
    rw [ht]
    repeat ((fail_if_success (refine GC.seq ?_; refine GC.region (id := 11) ?_)); first | (apply G.ex (hd := rfl); case h => (first | exact Ex.assign rfl)) | refine G.nil ?_ | refine GC.seq ?_ | refine GE.then_normal ?_)
    refine GC.meet (ι := Nat) (fun s => s < n ∧ 0 < cN out s) (fun s => [(1, .slice a1 len1 cap1), (2, .slice a2 len2 cap2), (7, .slice ca n cc), (8, .slice oa n oc), (11, .slice sa i sc), (12, .int .i64 ((allLen (cN out) S : Nat) : Int)), (13, .int .i64 (i : Int)), (14, .int .i64 (s : Int))]) (fun _ => [DR sa i sc S, .vec 3 1 ca n cc (flat (eI .i64) C), LS oa n oc out, .sl a1 len1 cap1 1 (flat (eI .i64) z1), .sl a2 len2 cap2 1 (flat eB z2)]) (LS oa n oc out :: .vec 3 1 q3 1 1 (flat (eI .i64) [3]) :: .sl a0 len0 cap0 1 (flat (eI .i64) z0) :: .sl a1 len1 cap1 1 (flat (eI .i64) z1) :: .sl a2 len2 cap2 1 (flat eB z2) :: rest) ?_ ?_
    · by_cases z : C.getD t default = 0
      · have hps := pos (n - 1) (by omega) (by rw [hlast]; decide)
        clear pos vo m hin hbits
        repeat (first | (apply G.ex (hd := rfl); case h => (first | exact Ex.move rfl | exact Ex.sub rfl rfl (by omega) | exact Ex.eqI rfl rfl | exact Ex.lenSl rfl | exact Ex.indexN rfl rfl (by first | omega | (simp; done) | (simp; omega)) | exact Ex.loadT0 rfl (by first | omega | (simp; done) | (simp; omega)) rfl | exact Ex.assign rfl)) | refine G.nil ?_ | refine GC.seq ?_ | refine GC.region ?_ | refine GE.then_normal ?_ | refine GC.cond_yes rfl (by first | assumption | omega) ?_)
        rw [show (n : Int) - 1 = ((n - 1 : Nat) : Int) by omega]
        refine GE.meet (n - 1) ⟨by omega, hps⟩ (by simp only [fits]; repeat (first | exact trivial | refine And.intro rfl ?_)) (by repeat first | exact tn_ | apply td_ rfl | apply tc_ | exact .here | apply Take1.there) (by repeat (first | exact Subs.refl | refine Subs.skip ?_))
      · have hps := pos t htn z
        clear pos vo m hin hbits
        repeat (first | (apply G.ex (hd := rfl); case h => (first | exact Ex.move rfl | exact Ex.eqI rfl rfl | exact Ex.indexN rfl rfl (by first | omega | (simp; done) | (simp; omega)) | exact Ex.loadT0 rfl (by first | omega | (simp; done) | (simp; omega)) rfl)) | refine G.nil ?_ | refine GC.seq ?_ | refine GC.region ?_ | refine GC.skip ?_ | refine GE.then_normal ?_ | refine GC.cond_no rfl (by first | assumption | omega) ?_)
        refine GE.meet t ⟨htn, hps⟩ (by simp only [fits]; repeat (first | exact trivial | refine And.intro rfl ?_)) (by repeat first | exact tn_ | apply td_ rfl | apply tc_ | exact .here | apply Take1.there) (by repeat (first | exact Subs.refl | refine Subs.skip ?_))
    rintro s ⟨hsn, hsp⟩ fr_ rs_ hfr_ hrs_
    simp only [List.cons_append, List.nil_append] at hfr_ hrs_
    subst hfr_ hrs_
    have hvs := vo s hsn
    have hl40 := m.le s hsn
    have hcat : flat eN S ++ flat eN [s] = flat eN (S ++ [s]) := (flat_append ..).symm
    have hsum := allLen_snoc (cN out) S s
    have hin2 : ∀ u ∈ S ++ [s], u < n ∧ 0 < cN out u := fun u hu => by
      rcases List.mem_append.1 hu with h | h
      · exact hin u h
      · rw [List.mem_singleton.1 h]; exact ⟨hsn, hsp⟩
    clear pos vo m hin
    repeat (first | (apply G.ex (hd := rfl); case h => (first | exact Ex.move rfl)) | refine GC.seq ?_ | refine GC.region ?_ | refine GE.then_normal ?_)
    refine G.lit (cells := flat eN [s]) rfl (by rfl) (by rfl) (by rfl) (by rfl) (by rfl) (by rfl) rfl (fun q => ?_)
    refine G.app rfl rfl (by rfl) (by omega) rfl (hcat) (fun s2 sc2 rs_ hrs_ => ?_)
    try simp only at hrs_
    subst hrs_
    repeat (first | (apply G.ex (hd := rfl); case h => (first | exact Ex.move rfl | exact Ex.add rfl rfl (by omega) | exact Ex.indexN rfl rfl (by first | omega | (simp; done) | (simp; omega)) | exact Ex.loadT0 rfl (by first | omega | (simp; done) | (simp; omega)) rfl | exact Ex.assign rfl)) | refine G.nil ?_ | refine GC.region ?_ | refine GE.then_normal ?_ | refine GE.block_normal ?_)
    rw [hvs]
    repeat (first | fail)
    rw [show ((allLen (cN out) S : Nat) : Int) + ((cN out s : Nat) : Int) = ((allLen (cN out) (S ++ [s]) : Nat) : Int) by omega, show (i : Int) + 1 = ((i + 1 : Nat) : Int) by omega]
    refine GE.loop (i + 1, S ++ [s], s2, sc2) ⟨by simp only; omega, by simp only; omega, by simp only [List.length_append, List.length_singleton]; omega, hin2⟩ (by simp only; omega) (by simp only [fits]; repeat (first | exact trivial | refine And.intro rfl ?_)) (by repeat first | exact tn_ | apply td_ rfl | apply tc_ | exact .here | apply Take1.there) (by repeat (first | exact Subs.refl | refine Subs.skip ?_))
  · have hcond : (¬ (i : Int) < (len1 : Int)) ∨ ((i : Int) < (len1 : Int) ∧ ¬ (i : Int) < 100) := by omega
    clear pos c
    refine GC.frz sa ?_
    have body : ∀ (cs : Nat → Nat) (x : List UInt8), Coded (cN out) cs n → Packed x (allBits (cN out) cs S) → (x.length = (allLen (cN out) S + 7) / 8 ∧ allLen (cN out) S ≤ 8 * (x.length + len2) ∧ ∀ k, k < allLen (cN out) S → bitB (x ++ z2) k = bitL (allBits (cN out) cs S) k) := fun cs x h1 h2 => by
      have hl := h2.len
      rw [allBits_len] at hl
      exact ⟨hl, by omega, fun k hk => h2.bit z2 (by rw [allBits_len]; exact hk)⟩
    rcases hcond with h | ⟨h, h'⟩
    all_goals
      repeat (first | (apply G.ex (hd := rfl); case h => (first | exact Ex.move rfl | exact Ex.lss rfl rfl | exact Ex.lenSl rfl | exact Ex.pickT rfl (by first | assumption | omega) rfl | exact Ex.pickF rfl (by first | assumption | omega) rfl)) | refine G.g_tt rfl rfl (by first | assumption | omega) ?_ | refine G.g_tf rfl rfl (by first | assumption | omega) rfl ?_ | refine G.nil ?_ | refine GC.seq ?_ | refine GC.region ?_ | refine GC.exit ?_ | refine GE.then_normal ?_ | refine GE.then_exit ?_ | refine GE.block_hit ?_ | refine GC.cond_no rfl (by first | assumption | omega) ?_ | refine GC.cond_f rfl ?_)
      first | refine G.call (caps := []) (encode_sp oa n oc out hol (by omega) h0 m sa i sc S hSl (by omega) hin) rfl rfl rfl rfl (by repeat first | exact tn_ | apply td_ rfl | apply tc_ | exact .here | apply Take1.there) ?_ | refine G.callU (caps := []) (encode_sp oa n oc out hol (by omega) h0 m sa i sc S hSl (by omega) hin) rfl rfl rfl (by repeat first | exact tn_ | apply td_ rfl | apply tc_ | exact .here | apply Take1.there) ?_
      rintro v_ give_ ⟨cs, x, xa, xc, hcd, hpk, rfl, rfl⟩ rs_ hrs_
      simp only [List.cons_append, List.nil_append] at hrs_
      subst hrs_
      obtain ⟨e1, e2, e3⟩ := body cs x hcd hpk
      clear body hpk
      repeat (first | (apply G.ex (hd := rfl); case h => (first | exact Ex.move rfl | exact Ex.extract rfl rfl | exact Ex.assign rfl)) | refine G.nil ?_ | refine GC.seq ?_ | refine GC.region ?_ | refine GE.then_normal ?_)
      refine G.appNil rfl rfl (by rfl) (by omega) rfl (rfl) (fun ya yc => ?_)
      have hcat : flat eB x ++ flat eB z2 = flat eB (x ++ z2) := (flat_append ..).symm
      have hxl : (x ++ z2).length = x.length + len2 := by rw [List.length_append, hl2]
      have hx9 : x.length ≤ 600 := by omega
      repeat (first | (apply G.ex (hd := rfl); case h => (first | exact Ex.move rfl)))
      refine G.app rfl rfl (by rfl) (by omega) rfl (hcat) (fun wa wc rs_ hrs_ => ?_)
      try simp only at hrs_
      subst hrs_
      first | refine G.frz wa ?_ | refine GC.frz wa ?_ | refine GE.frz wa ?_
      repeat (first | (apply G.ex (hd := rfl); case h => (first | exact Ex.move rfl | exact Ex.lenSl rfl)))
      first | refine G.call (caps := []) (decode_sp oa n oc out hol (by omega) h0 m wa (x.length + len2) wc (x ++ z2) hxl (by omega) S i hSl (by omega) hin e2 cs hcd e3) rfl rfl rfl rfl (by repeat first | exact tn_ | apply td_ rfl | apply tc_ | exact .here | apply Take1.there) ?_ | refine G.callU (caps := []) (decode_sp oa n oc out hol (by omega) h0 m wa (x.length + len2) wc (x ++ z2) hxl (by omega) S i hSl (by omega) hin e2 cs hcd e3) rfl rfl rfl (by repeat first | exact tn_ | apply td_ rfl | apply tc_ | exact .here | apply Take1.there) ?_
      rintro v_ give_ ⟨ra, rc, rfl, rfl⟩ rs_ hrs_
      simp only [List.cons_append, List.nil_append] at hrs_
      subst hrs_
      clear e3 hcd hin m h0 vo hcat
      have hq : ((allLen (cN out) S : Nat) : Int) + 7 = ((allLen (cN out) S + 7 : Nat) : Int) := by omega
      have hq2 : (x.length : Int) = ((allLen (cN out) S + 7 : Nat) : Int) / 8 := by omega
      rw [eN_eI]
      repeat (first | (apply G.ex (hd := rfl); case h => (first | exact Ex.move rfl | exact Ex.add rfl rfl (by omega) | exact Ex.eqI rfl rfl | exact Ex.lenSl rfl | exact Ex.extract rfl rfl | exact Ex.assign rfl | exact Ex.quo rfl rfl (by omega) | exact Ex.pickT rfl (by first | assumption | omega) rfl)) | refine G.g_tt rfl rfl (by first | assumption | omega) ?_ | refine G.nil ?_ | refine GC.seq ?_ | refine GC.region ?_ | refine GE.then_normal ?_)
      rw [hq]
      repeat (first | fail)
      first | refine G.call (caps := []) (sameInts_sp (.vec 3 1 ra i rc (flat (eI .i64) (ints S))) (.sl sa i sc 1 (flat (eI .i64) (ints S))) ra sa i rc i sc (ints S) (ints S) (by unfold ints; rw [List.length_map]; exact hSl) (by unfold ints; rw [List.length_map]; exact hSl) (by omega) (by omega)) rfl rfl rfl rfl (by repeat first | exact tn_ | apply td_ rfl | apply tc_ | exact .here | apply Take1.there) ?_ | refine G.callU (caps := []) (sameInts_sp (.vec 3 1 ra i rc (flat (eI .i64) (ints S))) (.sl sa i sc 1 (flat (eI .i64) (ints S))) ra sa i rc i sc (ints S) (ints S) (by unfold ints; rw [List.length_map]; exact hSl) (by unfold ints; rw [List.length_map]; exact hSl) (by omega) (by omega)) rfl rfl rfl (by repeat first | exact tn_ | apply td_ rfl | apply tc_ | exact .here | apply Take1.there) ?_
      rintro v_ give_ ⟨rfl, rfl⟩ rs_ hrs_
      simp only [List.cons_append, List.nil_append] at hrs_
      subst hrs_
      rw [decide_eq_true (rfl : (ints S) = (ints S))]
      repeat (first | (apply G.ex (hd := rfl); case h => (first | exact Ex.assign rfl | exact Ex.pickT rfl (by first | assumption | omega) rfl)) | refine G.nil ?_ | refine GC.ret ?_ | refine GE.then_normal ?_)
      refine GE.ret (by first | exact .inl rfl | exact .inr rfl) (res1 Try.results8 rfl) ⟨rfl, rfl⟩ (by repeat first | exact tn_ | apply td_ rfl | apply tc_ | exact .here | apply Take1.there) (by repeat (first | exact Subs.refl | refine Subs.skip ?_))
end huff
end Go.Proofs.Ytfkgchdbjfbdaaa
