/-
  CONTRACTS of packthreadkeep.FollowTwo, FollowUp.
-/
import Derived.Test.YtjfdpfjngajnlaaDoorPthW
namespace Go.Proofs.YtjfdpfjngajnlaaDoor
open Go.RowKit
attribute [local irreducible] Ex G GC GE Gq FPost LPost
set_option linter.unusedVariables false
set_option linter.unusedSimpArgs false
namespace path
set_option maxHeartbeats 4000000 in
theorem followTwo_sp (a0 : Option Addr) (len0 cap0 : Nat) (z0 : List Int) (hl0 : z0.length = len0) (hb0 : len0 ≤ 9223372036854775807) (_ : ∀ z ∈ z0, -9223372036854775808 ≤ z ∧ z ≤ 9223372036854775807) (a1 : Option Addr) (len1 cap1 : Nat) (z1 : List Int) (hl1 : z1.length = len1) (hb1 : len1 ≤ 9223372036854775807) (_ : ∀ z ∈ z1, -9223372036854775808 ≤ z ∧ z ≤ 9223372036854775807) :
    Spec Tryd.prog 4 [.slice a0 len0 cap0, .slice a1 len1 cap1] [.sl a0 len0 cap0 1 (flat (eI .i64) z0), .sl a1 len1 cap1 1 (flat (eI .i64) z1)] fun v give => v = .bool true ∧ give = [] := by
  obtain ⟨a, hw, hk, hl, h11, hg⟩ := pathO_names z0 5 (by decide)
  obtain ⟨b, c, d, hfb, hwc, hwd, e1, e2⟩ := two_laws z0 z1 a hg hl
  have hjl := joinF_len a 5 h11 hl
  have hp0 := pathO_len z0 5
  have hp1 := pathO_len z1 5
  refine Spec.intro Tryd.func4 rfl Tryd.ntmps4 rfl fun w0 rest rs_ hrs_ => ?_
  simp only [List.cons_append, List.nil_append] at hrs_
  subst hrs_
  repeat (first | (apply G.ex (hd := rfl); case h => (first | exact Ex.move rfl | exact Ex.assign rfl)) | refine G.nil ?_ | refine GC.seq ?_ | refine GC.region ?_ | refine GE.then_normal ?_)
  first | refine G.call (caps := []) (pathOf_sp (.sl a0 len0 cap0 1 (flat (eI .i64) z0)) a0 len0 cap0 z0 hl0 hb0 5 (by decide)) rfl rfl rfl rfl (by repeat (first | exact Takes.nil | apply Takes.dup rfl | apply Takes.cons | exact Take1.here | apply Take1.there)) ?_ | refine G.callU (caps := []) (pathOf_sp (.sl a0 len0 cap0 1 (flat (eI .i64) z0)) a0 len0 cap0 z0 hl0 hb0 5 (by decide)) rfl rfl rfl (by repeat (first | exact Takes.nil | apply Takes.dup rfl | apply Takes.cons | exact Take1.here | apply Take1.there)) ?_
  rintro v_ give_ ⟨rfl, rfl⟩ rs_ hrs_
  simp only [List.cons_append, List.nil_append] at hrs_
  subst hrs_
  repeat (first | (apply G.ex (hd := rfl); case h => (first | exact Ex.move rfl | exact Ex.assign rfl)) | refine G.nil ?_ | refine GC.seq ?_ | refine GC.region ?_ | refine GE.then_normal ?_)
  first | refine G.call (caps := []) (pathOf_sp (.sl a1 len1 cap1 1 (flat (eI .i64) z1)) a1 len1 cap1 z1 hl1 hb1 5 (by decide)) rfl rfl rfl rfl (by repeat (first | exact Takes.nil | apply Takes.dup rfl | apply Takes.cons | exact Take1.here | apply Take1.there)) ?_ | refine G.callU (caps := []) (pathOf_sp (.sl a1 len1 cap1 1 (flat (eI .i64) z1)) a1 len1 cap1 z1 hl1 hb1 5 (by decide)) rfl rfl rfl (by repeat (first | exact Takes.nil | apply Takes.dup rfl | apply Takes.cons | exact Take1.here | apply Take1.there)) ?_
  rintro v_ give_ ⟨rfl, rfl⟩ rs_ hrs_
  simp only [List.cons_append, List.nil_append] at hrs_
  subst hrs_
  repeat (first | (apply G.ex (hd := rfl); case h => (first | exact Ex.move rfl | exact Ex.assign rfl)) | refine G.nil ?_ | refine GC.seq ?_ | refine GC.region ?_ | refine GE.then_normal ?_)
  first | refine G.call (caps := []) (clean_at (pathO z0 5) (by omega) a 0 hw) rfl rfl rfl rfl (by repeat (first | exact Takes.nil | apply Takes.dup rfl | apply Takes.cons | exact Take1.here | apply Take1.there)) ?_ | refine G.callU (caps := []) (clean_at (pathO z0 5) (by omega) a 0 hw) rfl rfl rfl (by repeat (first | exact Takes.nil | apply Takes.dup rfl | apply Takes.cons | exact Take1.here | apply Take1.there)) ?_
  rintro v_ give_ ⟨oa, oc, rfl, _, rfl⟩ rs_ hrs_
  simp only [List.cons_append, List.nil_append] at hrs_
  subst hrs_
  obtain ⟨q, hq⟩ : ∃ q, pathO z1 5 = q := ⟨_, rfl⟩
  rw [hq] at hfb hwc hwd e1 e2 hp1 ⊢
  obtain ⟨p, hp⟩ : ∃ p, pathO z0 5 = p := ⟨_, rfl⟩
  rw [hp] at hwc hp0 ⊢
  repeat (first | (apply G.ex (hd := rfl); case h => (first | exact Ex.move rfl | exact Ex.lenO rfl | exact Ex.extract rfl rfl | exact Ex.assign rfl | exact Ex.min rfl rfl)) | refine G.nil ?_ | refine GC.seq ?_ | refine GC.region ?_ | refine GE.then_normal ?_)
  rw [show min (1 : Int) (q.length : Int) = ((min 1 q.length : Nat) : Int) by omega]
  refine G.ex (Ex.subLo (a := min 1 q.length) rfl rfl (by omega)) rfl ?_
  first | refine G.call (caps := []) (follow_at (.vec 9 1 oa a.length oc (flat eO a)) oa a.length oc a rfl hk (q.drop (min 1 q.length)) (by rw [List.length_drop]; omega) b 0 hfb) rfl rfl rfl rfl (by repeat (first | exact Takes.nil | apply Takes.dup rfl | apply Takes.cons | exact Take1.here | apply Take1.there)) ?_ | refine G.callU (caps := []) (follow_at (.vec 9 1 oa a.length oc (flat eO a)) oa a.length oc a rfl hk (q.drop (min 1 q.length)) (by rw [List.length_drop]; omega) b 0 hfb) rfl rfl rfl (by repeat (first | exact Takes.nil | apply Takes.dup rfl | apply Takes.cons | exact Take1.here | apply Take1.there)) ?_
  rintro v_ give_ ⟨ob, bc, rfl, _, rfl⟩ rs_ hrs_
  simp only [List.cons_append, List.nil_append] at hrs_
  subst hrs_
  repeat (first | (apply G.ex (hd := rfl); case h => (first | exact Ex.move rfl | exact Ex.extract rfl rfl | exact Ex.assign rfl)) | refine G.nil ?_ | refine GC.seq ?_ | refine GC.region ?_ | refine GE.then_normal ?_)
  refine G.ex (Ex.addO (a := p) (b := [47]) rfl rfl (by simp only [List.length_append, List.length_singleton]; omega)) rfl ?_
  repeat (first | (apply G.ex (hd := rfl); case h => (first | exact Ex.move rfl)))
  refine G.ex (Ex.addO (a := p ++ [47]) (b := q) rfl rfl (by simp only [List.length_append, List.length_singleton]; omega)) rfl ?_
  rw [show p ++ [47] ++ q = p ++ 47 :: q by simp]
  first | refine G.call (caps := []) (clean_at (p ++ 47 :: q) (by simp only [List.length_append, List.length_cons]; omega) c 0 hwc) rfl rfl rfl rfl (by repeat (first | exact Takes.nil | apply Takes.dup rfl | apply Takes.cons | exact Take1.here | apply Take1.there)) ?_ | refine G.callU (caps := []) (clean_at (p ++ 47 :: q) (by simp only [List.length_append, List.length_cons]; omega) c 0 hwc) rfl rfl rfl (by repeat (first | exact Takes.nil | apply Takes.dup rfl | apply Takes.cons | exact Take1.here | apply Take1.there)) ?_
  rintro v_ give_ ⟨ocx, cc, rfl, _, rfl⟩ rs_ hrs_
  simp only [List.cons_append, List.nil_append] at hrs_
  subst hrs_
  repeat (first | (apply G.ex (hd := rfl); case h => (first | exact Ex.move rfl | exact Ex.neI rfl rfl | exact Ex.extract rfl rfl | exact Ex.assign rfl | exact Ex.pickF rfl (by first | assumption | omega) rfl)) | refine G.g_ff rfl rfl (by first | assumption | omega) ?_ | refine G.nil ?_ | refine GC.seq ?_ | refine GC.region ?_ | refine GE.then_normal ?_)
  first | refine G.call (caps := []) (joined_sp (.vec 9 1 oa a.length oc (flat eO a)) oa a.length oc a rfl hk (by omega)) rfl rfl rfl rfl (by repeat (first | exact Takes.nil | apply Takes.dup rfl | apply Takes.cons | exact Take1.here | apply Take1.there)) ?_ | refine G.callU (caps := []) (joined_sp (.vec 9 1 oa a.length oc (flat eO a)) oa a.length oc a rfl hk (by omega)) rfl rfl rfl (by repeat (first | exact Takes.nil | apply Takes.dup rfl | apply Takes.cons | exact Take1.here | apply Take1.there)) ?_
  rintro v_ give_ ⟨rfl, rfl⟩ rs_ hrs_
  simp only [List.cons_append, List.nil_append] at hrs_
  subst hrs_
  repeat (first | (apply G.ex (hd := rfl); case h => (first | exact Ex.move rfl | exact Ex.lenO rfl | exact Ex.gtr rfl rfl | exact Ex.notB rfl | exact Ex.pickF rfl (by first | assumption | omega) rfl)) | refine G.g_ff rfl rfl (by first | assumption | omega) ?_ | refine G.nil ?_ | refine GC.seq ?_ | refine GC.region ?_ | refine GC.skip ?_ | refine GE.then_normal ?_ | refine GC.cond_f rfl ?_)
  have hbc : b = c → decide (b = c) = true := fun h => decide_eq_true h
  have hbd : b = d → decide (b = d) = true := fun h => decide_eq_true h
  by_cases h1 : 1 < q.length
  · have hd1 : (q.drop (min 1 q.length)).take 1 = [q.getD 1 0] := by
      rw [show min 1 q.length = 1 by omega, List.drop_eq_getElem_cons h1, List.getD_eq_getElem?_getD, List.getElem?_eq_getElem h1]; rfl
    rw [hd1] at e1 e2
    by_cases hu : ((q.getD 1 0).toNat : Int) = 47
    · have hu2 : q.getD 1 0 = 47 := UInt8.toNat_inj.1 (by show _ = 47; omega)
      have hb := hbd (e1 (by rw [hu2]))
      repeat (first | (apply G.ex (hd := rfl); case h => (first | exact Ex.move rfl | exact Ex.indexO rfl rfl (by omega) | exact Ex.eqI rfl rfl | exact Ex.pickT rfl (by first | assumption | omega) rfl)) | refine G.g_tt rfl rfl (by first | assumption | omega) ?_ | refine G.nil ?_ | refine GC.seq ?_ | refine GC.region ?_ | refine GE.then_normal ?_ | refine GC.cond_yes rfl (by first | assumption | omega) ?_)
      refine G.ex (Ex.subLo (a := 1) rfl rfl (by omega)) rfl ?_
      first | refine G.call (caps := []) (clean_at (q.drop 1) (by rw [List.length_drop]; omega) d 0 hwd) rfl rfl rfl rfl (by repeat (first | exact Takes.nil | apply Takes.dup rfl | apply Takes.cons | exact Take1.here | apply Take1.there)) ?_ | refine G.callU (caps := []) (clean_at (q.drop 1) (by rw [List.length_drop]; omega) d 0 hwd) rfl rfl rfl (by repeat (first | exact Takes.nil | apply Takes.dup rfl | apply Takes.cons | exact Take1.here | apply Take1.there)) ?_
      rintro v_ give_ ⟨od, dc, rfl, _, rfl⟩ rs_ hrs_
      simp only [List.cons_append, List.nil_append] at hrs_
      subst hrs_
      repeat (first | (apply G.ex (hd := rfl); case h => (first | exact Ex.move rfl | exact Ex.eqI rfl rfl | exact Ex.extract rfl rfl | exact Ex.assign rfl)) | refine G.g_tt rfl rfl (by first | assumption | omega) ?_ | refine G.nil ?_ | refine GC.seq ?_ | refine GC.region ?_ | refine GE.then_normal ?_)
      first | refine G.call (caps := []) (texts_sp (.vec 9 1 ob b.length bc (flat eO b)) (.vec 9 1 od d.length dc (flat eO d)) ob od b.length d.length bc dc b d rfl rfl (by omega) (by omega)) rfl rfl rfl rfl (by repeat (first | exact Takes.nil | apply Takes.dup rfl | apply Takes.cons | exact Take1.here | apply Take1.there)) ?_ | refine G.callU (caps := []) (texts_sp (.vec 9 1 ob b.length bc (flat eO b)) (.vec 9 1 od d.length dc (flat eO d)) ob od b.length d.length bc dc b d rfl rfl (by omega) (by omega)) rfl rfl rfl (by repeat (first | exact Takes.nil | apply Takes.dup rfl | apply Takes.cons | exact Take1.here | apply Take1.there)) ?_
      rintro v_ give_ ⟨rfl, rfl⟩ rs_ hrs_
      simp only [List.cons_append, List.nil_append] at hrs_
      subst hrs_
      rw [hb]
      repeat (first | (apply G.ex (hd := rfl); case h => (first | exact Ex.assign rfl | exact Ex.pickT rfl (by first | assumption | omega) rfl)) | refine G.nil ?_ | refine GC.ret ?_ | refine GE.then_normal ?_ | refine GE.then_ret ?_)
      refine GE.ret (by first | exact .inl rfl | exact .inr rfl) (by first | exact res0 Tryd.results4 | exact res1 Tryd.results4 rfl | exact res2 Tryd.results4 rfl rfl | exact resR1 Tryd.results4 (by first | exact RV.tmp rfl | exact RV.cell rfl (eP_len _) | exact RV.cell rfl rfl | exact RV.cell1 rfl) | exact resR2 Tryd.results4 (by first | exact RV.tmp rfl | exact RV.cell rfl (eP_len _) | exact RV.cell rfl rfl | exact RV.cell1 rfl) (by first | exact RV.tmp rfl | exact RV.cell rfl (eP_len _) | exact RV.cell rfl rfl | exact RV.cell1 rfl) | exact resR3 Tryd.results4 (by first | exact RV.tmp rfl | exact RV.cell rfl (eP_len _) | exact RV.cell rfl rfl | exact RV.cell1 rfl) (by first | exact RV.tmp rfl | exact RV.cell rfl (eP_len _) | exact RV.cell rfl rfl | exact RV.cell1 rfl) (by first | exact RV.tmp rfl | exact RV.cell rfl (eP_len _) | exact RV.cell rfl rfl | exact RV.cell1 rfl)) ⟨rfl, rfl⟩ (by repeat (first | exact Takes.nil | apply Takes.dup rfl | apply Takes.cons | exact Take1.here | apply Take1.there)) (by repeat (first | exact Subs.refl | refine Subs.skip ?_))
    · have hu2 : ¬ [q.getD 1 0] = [47] := fun h => hu (by rw [(List.cons.inj h).1]; rfl)
      have hb := hbc (e2 hu2)
      repeat (first | (apply G.ex (hd := rfl); case h => (first | exact Ex.move rfl | exact Ex.indexO rfl rfl (by omega) | exact Ex.eqI rfl rfl | exact Ex.pickT rfl (by first | assumption | omega) rfl)) | refine G.g_tt rfl rfl (by first | assumption | omega) ?_ | refine G.nil ?_ | refine GC.seq ?_ | refine GC.region ?_ | refine GC.skip ?_ | refine GE.then_normal ?_ | refine GC.cond_no rfl (by first | assumption | omega) ?_)
      first | refine G.call (caps := []) (texts_sp (.vec 9 1 ob b.length bc (flat eO b)) (.vec 9 1 ocx c.length cc (flat eO c)) ob ocx b.length c.length bc cc b c rfl rfl (by omega) (by omega)) rfl rfl rfl rfl (by repeat (first | exact Takes.nil | apply Takes.dup rfl | apply Takes.cons | exact Take1.here | apply Take1.there)) ?_ | refine G.callU (caps := []) (texts_sp (.vec 9 1 ob b.length bc (flat eO b)) (.vec 9 1 ocx c.length cc (flat eO c)) ob ocx b.length c.length bc cc b c rfl rfl (by omega) (by omega)) rfl rfl rfl (by repeat (first | exact Takes.nil | apply Takes.dup rfl | apply Takes.cons | exact Take1.here | apply Take1.there)) ?_
      rintro v_ give_ ⟨rfl, rfl⟩ rs_ hrs_
      simp only [List.cons_append, List.nil_append] at hrs_
      subst hrs_
      rw [hb]
      repeat (first | (apply G.ex (hd := rfl); case h => (first | exact Ex.assign rfl)) | refine G.nil ?_ | refine GC.ret ?_ | refine GE.then_normal ?_)
      refine GE.ret (by first | exact .inl rfl | exact .inr rfl) (by first | exact res0 Tryd.results4 | exact res1 Tryd.results4 rfl | exact res2 Tryd.results4 rfl rfl | exact resR1 Tryd.results4 (by first | exact RV.tmp rfl | exact RV.cell rfl (eP_len _) | exact RV.cell rfl rfl | exact RV.cell1 rfl) | exact resR2 Tryd.results4 (by first | exact RV.tmp rfl | exact RV.cell rfl (eP_len _) | exact RV.cell rfl rfl | exact RV.cell1 rfl) (by first | exact RV.tmp rfl | exact RV.cell rfl (eP_len _) | exact RV.cell rfl rfl | exact RV.cell1 rfl) | exact resR3 Tryd.results4 (by first | exact RV.tmp rfl | exact RV.cell rfl (eP_len _) | exact RV.cell rfl rfl | exact RV.cell1 rfl) (by first | exact RV.tmp rfl | exact RV.cell rfl (eP_len _) | exact RV.cell rfl rfl | exact RV.cell1 rfl) (by first | exact RV.tmp rfl | exact RV.cell rfl (eP_len _) | exact RV.cell rfl rfl | exact RV.cell1 rfl)) ⟨rfl, rfl⟩ (by repeat (first | exact Takes.nil | apply Takes.dup rfl | apply Takes.cons | exact Take1.here | apply Take1.there)) (by repeat (first | exact Subs.refl | refine Subs.skip ?_))
  · have hd1 : ¬ (q.drop (min 1 q.length)).take 1 = [47] := by
      rw [List.drop_eq_nil_of_le (by omega)]; exact fun h => nomatch h
    have hb := hbc (e2 hd1)
    repeat (first | (apply G.ex (hd := rfl); case h => (first | exact Ex.move rfl | exact Ex.pickF rfl (by first | assumption | omega) rfl)) | refine G.g_tf rfl rfl (by first | assumption | omega) rfl ?_ | refine G.nil ?_ | refine GC.seq ?_ | refine GC.region ?_ | refine GC.skip ?_ | refine GE.then_normal ?_ | refine GC.cond_f rfl ?_)
    first | refine G.call (caps := []) (texts_sp (.vec 9 1 ob b.length bc (flat eO b)) (.vec 9 1 ocx c.length cc (flat eO c)) ob ocx b.length c.length bc cc b c rfl rfl (by omega) (by omega)) rfl rfl rfl rfl (by repeat (first | exact Takes.nil | apply Takes.dup rfl | apply Takes.cons | exact Take1.here | apply Take1.there)) ?_ | refine G.callU (caps := []) (texts_sp (.vec 9 1 ob b.length bc (flat eO b)) (.vec 9 1 ocx c.length cc (flat eO c)) ob ocx b.length c.length bc cc b c rfl rfl (by omega) (by omega)) rfl rfl rfl (by repeat (first | exact Takes.nil | apply Takes.dup rfl | apply Takes.cons | exact Take1.here | apply Take1.there)) ?_
    rintro v_ give_ ⟨rfl, rfl⟩ rs_ hrs_
    simp only [List.cons_append, List.nil_append] at hrs_
    subst hrs_
    rw [hb]
    repeat (first | (apply G.ex (hd := rfl); case h => (first | exact Ex.assign rfl)) | refine G.nil ?_ | refine GC.ret ?_ | refine GE.then_normal ?_)
    refine GE.ret (by first | exact .inl rfl | exact .inr rfl) (by first | exact res0 Tryd.results4 | exact res1 Tryd.results4 rfl | exact res2 Tryd.results4 rfl rfl | exact resR1 Tryd.results4 (by first | exact RV.tmp rfl | exact RV.cell rfl (eP_len _) | exact RV.cell rfl rfl | exact RV.cell1 rfl) | exact resR2 Tryd.results4 (by first | exact RV.tmp rfl | exact RV.cell rfl (eP_len _) | exact RV.cell rfl rfl | exact RV.cell1 rfl) (by first | exact RV.tmp rfl | exact RV.cell rfl (eP_len _) | exact RV.cell rfl rfl | exact RV.cell1 rfl) | exact resR3 Tryd.results4 (by first | exact RV.tmp rfl | exact RV.cell rfl (eP_len _) | exact RV.cell rfl rfl | exact RV.cell1 rfl) (by first | exact RV.tmp rfl | exact RV.cell rfl (eP_len _) | exact RV.cell rfl rfl | exact RV.cell1 rfl) (by first | exact RV.tmp rfl | exact RV.cell rfl (eP_len _) | exact RV.cell rfl rfl | exact RV.cell1 rfl)) ⟨rfl, rfl⟩ (by repeat (first | exact Takes.nil | apply Takes.dup rfl | apply Takes.cons | exact Take1.here | apply Take1.there)) (by repeat (first | exact Subs.refl | refine Subs.skip ?_))
set_option maxHeartbeats 4000000 in
theorem followUp_sp (a0 : Option Addr) (len0 cap0 : Nat) (z0 : List Int) (hl0 : z0.length = len0) (hb0 : len0 ≤ 9223372036854775807) (_ : ∀ z ∈ z0, -9223372036854775808 ≤ z ∧ z ≤ 9223372036854775807) (a1 : Int) (_ : -9223372036854775808 ≤ a1 ∧ a1 ≤ 9223372036854775807) :
    Spec Tryd.prog 5 [.slice a0 len0 cap0, .int .i64 a1] [.sl a0 len0 cap0 1 (flat (eI .i64) z0)] fun v give => v = .bool true ∧ give = [] := by
  obtain ⟨a, hw, hk, hl, h11, hg⟩ := pathO_names z0 8 (by decide)
  have h0 := Int.emod_nonneg a1 (show (20 : Int) ≠ 0 by decide)
  have h1 := Int.emod_lt_of_pos a1 (show (0 : Int) < 20 by decide)
  obtain ⟨K, hK⟩ : ∃ K : Nat, a1 % 20 = (K : Int) := ⟨(a1 % 20).toNat, by omega⟩
  have hK20 : K < 20 := by omega
  obtain ⟨f1, f2, f3⟩ := up_laws a hl K hK20
  have hjl := joinF_len a 8 h11 hl
  have hp0 := pathO_len z0 8
  have hul := upF_len K
  obtain ⟨C, hC⟩ : ∃ C, a.take (a.length - K) = C := ⟨_, rfl⟩
  have haa : decide (a = a) = true := decide_eq_true rfl
  have hCC : decide (C = C) = true := decide_eq_true rfl
  refine Spec.intro Tryd.func5 rfl Tryd.ntmps5 rfl fun w0 rest rs_ hrs_ => ?_
  simp only [List.cons_append, List.nil_append] at hrs_
  subst hrs_
  repeat (first | (apply G.ex (hd := rfl); case h => (first | exact Ex.move rfl | exact Ex.assign rfl)) | refine G.nil ?_ | refine GC.seq ?_ | refine GC.region ?_ | refine GE.then_normal ?_)
  first | refine G.call (caps := []) (pathOf_sp (.sl a0 len0 cap0 1 (flat (eI .i64) z0)) a0 len0 cap0 z0 hl0 hb0 8 (by decide)) rfl rfl rfl rfl (by repeat (first | exact Takes.nil | apply Takes.dup rfl | apply Takes.cons | exact Take1.here | apply Take1.there)) ?_ | refine G.callU (caps := []) (pathOf_sp (.sl a0 len0 cap0 1 (flat (eI .i64) z0)) a0 len0 cap0 z0 hl0 hb0 8 (by decide)) rfl rfl rfl (by repeat (first | exact Takes.nil | apply Takes.dup rfl | apply Takes.cons | exact Take1.here | apply Take1.there)) ?_
  rintro v_ give_ ⟨rfl, rfl⟩ rs_ hrs_
  simp only [List.cons_append, List.nil_append] at hrs_
  subst hrs_
  first | refine G.call (caps := []) (clean_at (pathO z0 8) (by omega) a 0 hw) rfl rfl rfl rfl (by repeat (first | exact Takes.nil | apply Takes.dup rfl | apply Takes.cons | exact Take1.here | apply Take1.there)) ?_ | refine G.callU (caps := []) (clean_at (pathO z0 8) (by omega) a 0 hw) rfl rfl rfl (by repeat (first | exact Takes.nil | apply Takes.dup rfl | apply Takes.cons | exact Take1.here | apply Take1.there)) ?_
  rintro v_ give_ ⟨oa, oc, rfl, _, rfl⟩ rs_ hrs_
  simp only [List.cons_append, List.nil_append] at hrs_
  subst hrs_
  repeat (first | (apply G.ex (hd := rfl); case h => (first | exact Ex.move rfl | exact Ex.extract rfl rfl | exact Ex.assign rfl)) | refine G.nil ?_ | refine GC.seq ?_ | refine GC.region ?_ | refine GE.then_normal ?_)
  first | refine G.call (caps := []) (follow_at (.vec 9 1 oa a.length oc (flat eO a)) oa a.length oc a rfl hk [113, 47, 46, 46] (by decide) a 0 f1) rfl rfl rfl rfl (by repeat (first | exact Takes.nil | apply Takes.dup rfl | apply Takes.cons | exact Take1.here | apply Take1.there)) ?_ | refine G.callU (caps := []) (follow_at (.vec 9 1 oa a.length oc (flat eO a)) oa a.length oc a rfl hk [113, 47, 46, 46] (by decide) a 0 f1) rfl rfl rfl (by repeat (first | exact Takes.nil | apply Takes.dup rfl | apply Takes.cons | exact Take1.here | apply Take1.there)) ?_
  rintro v_ give_ ⟨ob, bc, rfl, _, rfl⟩ rs_ hrs_
  simp only [List.cons_append, List.nil_append] at hrs_
  subst hrs_
  repeat (first | (apply G.ex (hd := rfl); case h => (first | exact Ex.move rfl | exact Ex.extract rfl rfl | exact Ex.assign rfl)) | refine G.nil ?_ | refine GC.seq ?_ | refine GC.region ?_ | refine GC.block ?_ | refine GE.then_normal ?_)
  refine GC.loop (ι := Nat) (fun i => i ≤ K) (fun i => K - i) (fun i => [(1, .int .i64 a1), (5, .slice oa a.length oc), (6, .int .i64 0), (7, .slice ob a.length bc), (8, .int .i64 0), (9, .string (sOf (upF i))), (10, .int .i64 (i : Int))]) (fun _ => [.vec 9 1 ob a.length bc (flat eO a), .vec 9 1 oa a.length oc (flat eO a)]) 0 (Nat.zero_le _) (by simp only [fits]; repeat (first | exact trivial | refine And.intro rfl ?_)) (by repeat (first | exact Takes.nil | apply Takes.dup rfl | apply Takes.cons | exact Take1.here | apply Take1.there)) ?_
  rintro i hi fr_ rs_ hfr_ hrs_
  simp only [List.cons_append, List.nil_append] at hfr_ hrs_
  subst hfr_ hrs_
  have hui := upF_len i
  repeat (first | (apply G.ex (hd := rfl); case h => (first | exact Ex.move rfl)) | refine GC.seq ?_ | refine GC.region ?_)
  first | refine G.call (caps := []) (picked_sp a1 20 (by decide) (by decide)) rfl rfl rfl rfl (by repeat (first | exact Takes.nil | apply Takes.dup rfl | apply Takes.cons | exact Take1.here | apply Take1.there)) ?_ | refine G.callU (caps := []) (picked_sp a1 20 (by decide) (by decide)) rfl rfl rfl (by repeat (first | exact Takes.nil | apply Takes.dup rfl | apply Takes.cons | exact Take1.here | apply Take1.there)) ?_
  rintro v_ give_ ⟨rfl, rfl⟩ rs_ hrs_
  simp only [List.cons_append, List.nil_append] at hrs_
  subst hrs_
  rw [hK]
  repeat (first | (apply G.ex (hd := rfl); case h => (first | exact Ex.lss rfl rfl)) | refine G.nil ?_ | refine GE.then_normal ?_)
  refine GC.cond_dec rfl (fun hlt => ?_) (fun hlt => ?_)
  · have hlt : i < K := by omega
    repeat (first | (apply G.ex (hd := rfl); case h => (first | exact Ex.move rfl)) | refine GC.seq ?_ | refine GC.region ?_ | refine GC.block ?_ | refine GC.skip ?_ | refine GE.then_normal ?_)
    refine G.ex (Ex.addO (a := upF i) (b := [46, 46, 47]) rfl rfl (by simp only [List.length_append, List.length_cons, List.length_nil]; omega)) rfl ?_
    rw [upF_step]
    repeat (first | (apply G.ex (hd := rfl); case h => (first | exact Ex.move rfl | exact Ex.add rfl rfl (by omega) | exact Ex.assign rfl)) | refine G.nil ?_ | refine GC.region ?_ | refine GE.then_normal ?_ | refine GE.block_normal ?_)
    refine GE.loop (i + 1) (by omega) (by omega) (by simp only [fits]; repeat (first | exact trivial | refine And.intro rfl ?_)) (by repeat (first | exact Takes.nil | apply Takes.dup rfl | apply Takes.cons | exact Take1.here | apply Take1.there)) (by repeat (first | exact Subs.refl | refine Subs.skip ?_))
  · have hiK : i = K := by omega
    subst hiK
    repeat (first | (apply G.ex (hd := rfl); case h => (first | exact Ex.move rfl)) | refine GC.seq ?_ | refine GC.region ?_ | refine GC.exit ?_ | refine GE.then_normal ?_ | refine GE.then_exit ?_ | refine GE.block_hit ?_)
    first | refine G.call (caps := []) (follow_at (.vec 9 1 oa a.length oc (flat eO a)) oa a.length oc a rfl hk (upF i) (by omega) C 0 (hC ▸ f2)) rfl rfl rfl rfl (by repeat (first | exact Takes.nil | apply Takes.dup rfl | apply Takes.cons | exact Take1.here | apply Take1.there)) ?_ | refine G.callU (caps := []) (follow_at (.vec 9 1 oa a.length oc (flat eO a)) oa a.length oc a rfl hk (upF i) (by omega) C 0 (hC ▸ f2)) rfl rfl rfl (by repeat (first | exact Takes.nil | apply Takes.dup rfl | apply Takes.cons | exact Take1.here | apply Take1.there)) ?_
    rintro v_ give_ ⟨od, dc, rfl, _, rfl⟩ rs_ hrs_
    simp only [List.cons_append, List.nil_append] at hrs_
    subst hrs_
    repeat (first | (apply G.ex (hd := rfl); case h => (first | exact Ex.move rfl | exact Ex.extract rfl rfl | exact Ex.assign rfl)) | refine G.nil ?_ | refine GC.seq ?_ | refine GC.region ?_ | refine GE.then_normal ?_)
    first | refine G.call (caps := []) (follow_at (.vec 9 1 oa a.length oc (flat eO a)) oa a.length oc a rfl hk [47] (by decide) [] 0 f3) rfl rfl rfl rfl (by repeat (first | exact Takes.nil | apply Takes.dup rfl | apply Takes.cons | exact Take1.here | apply Take1.there)) ?_ | refine G.callU (caps := []) (follow_at (.vec 9 1 oa a.length oc (flat eO a)) oa a.length oc a rfl hk [47] (by decide) [] 0 f3) rfl rfl rfl (by repeat (first | exact Takes.nil | apply Takes.dup rfl | apply Takes.cons | exact Take1.here | apply Take1.there)) ?_
    rintro v_ give_ ⟨oe, ec, rfl, _, rfl⟩ rs_ hrs_
    simp only [List.cons_append, List.nil_append] at hrs_
    subst hrs_
    repeat (first | (apply G.ex (hd := rfl); case h => (first | exact Ex.move rfl | exact Ex.eqI rfl rfl | exact Ex.extract rfl rfl | exact Ex.assign rfl | exact Ex.pickT rfl (by first | assumption | omega) rfl)) | refine G.g_tt rfl rfl (by first | assumption | omega) ?_ | refine G.nil ?_ | refine GC.seq ?_ | refine GC.region ?_ | refine GE.then_normal ?_)
    first | refine G.call (caps := []) (texts_sp (.vec 9 1 oa a.length oc (flat eO a)) (.vec 9 1 ob a.length bc (flat eO a)) oa ob a.length a.length oc bc a a rfl rfl (by omega) (by omega)) rfl rfl rfl rfl (by repeat (first | exact Takes.nil | apply Takes.dup rfl | apply Takes.cons | exact Take1.here | apply Take1.there)) ?_ | refine G.callU (caps := []) (texts_sp (.vec 9 1 oa a.length oc (flat eO a)) (.vec 9 1 ob a.length bc (flat eO a)) oa ob a.length a.length oc bc a a rfl rfl (by omega) (by omega)) rfl rfl rfl (by repeat (first | exact Takes.nil | apply Takes.dup rfl | apply Takes.cons | exact Take1.here | apply Take1.there)) ?_
    rintro v_ give_ ⟨rfl, rfl⟩ rs_ hrs_
    simp only [List.cons_append, List.nil_append] at hrs_
    subst hrs_
    rw [haa]
    repeat (first | (apply G.ex (hd := rfl); case h => (first | exact Ex.move rfl | exact Ex.eqI rfl rfl | exact Ex.lenSl rfl | exact Ex.pickT rfl (by first | assumption | omega) rfl)) | refine G.g_tt rfl rfl (by first | assumption | omega) ?_ | refine G.yes rfl rfl ?_)
    first | refine G.call (caps := []) (picked_sp a1 20 (by decide) (by decide)) rfl rfl rfl rfl (by repeat (first | exact Takes.nil | apply Takes.dup rfl | apply Takes.cons | exact Take1.here | apply Take1.there)) ?_ | refine G.callU (caps := []) (picked_sp a1 20 (by decide) (by decide)) rfl rfl rfl (by repeat (first | exact Takes.nil | apply Takes.dup rfl | apply Takes.cons | exact Take1.here | apply Take1.there)) ?_
    rintro v_ give_ ⟨rfl, rfl⟩ rs_ hrs_
    simp only [List.cons_append, List.nil_append] at hrs_
    subst hrs_
    rw [hK]
    repeat (first | (apply G.ex (hd := rfl); case h => (first | exact Ex.sub rfl rfl (by omega) | exact Ex.max rfl rfl)) | refine G.yes rfl rfl ?_)
    rw [show max (0 : Int) ((a.length : Int) - (i : Int)) = ((a.length - i : Nat) : Int) by omega]
    refine G.len oa (m := a.length) (c := oc) fun ⟨_, hoc, _⟩ => ?_
    refine G.ex (Ex.slHi (r := a.length - i) rfl rfl (by omega)) rfl ?_
    have hP : RdR (.vec 9 1 oa a.length oc (flat eO a)) (subA oa oc 0 1) (a.length - i - 0) (oc - 0) 1 (flat eO C) := by
      have h := RdR.piece (t := 9) (size := 1) (ao := oa) (n := a.length) (c := oc) (xs := flat eO a) 0 (a.length - i) (Nat.zero_le _) (Nat.sub_le _ _)
      rw [← hC, ← flat_takeO]
      simpa using h
    have hCl : C.length = a.length - i - 0 := by rw [← hC, List.length_take]; omega
    repeat (first | refine G.yes rfl rfl ?_)
    first | refine G.call (caps := []) (texts_sp (.vec 9 1 od C.length dc (flat eO C)) (.vec 9 1 oa a.length oc (flat eO a)) od (subA oa oc 0 1) C.length (a.length - i - 0) dc (oc - 0) C C rfl hCl (by omega) (by omega)) rfl rfl rfl rfl (by repeat (first | exact Takes.nil | apply Takes.dup rfl | apply Takes.cons | exact Take1.here | apply Take1.there)) ?_ | refine G.callU (caps := []) (texts_sp (.vec 9 1 od C.length dc (flat eO C)) (.vec 9 1 oa a.length oc (flat eO a)) od (subA oa oc 0 1) C.length (a.length - i - 0) dc (oc - 0) C C rfl hCl (by omega) (by omega)) rfl rfl rfl (by repeat (first | exact Takes.nil | apply Takes.dup rfl | apply Takes.cons | exact Take1.here | apply Take1.there)) ?_
    rintro v_ give_ ⟨rfl, rfl⟩ rs_ hrs_
    simp only [List.cons_append, List.nil_append] at hrs_
    subst hrs_
    rw [hCC]
    clear hP
    repeat (first | (apply G.ex (hd := rfl); case h => (first | exact Ex.move rfl | exact Ex.pickLT rfl rfl)) | refine G.yes rfl rfl ?_)
    first | refine G.call (caps := []) (joined_sp (.vec 9 1 oa a.length oc (flat eO a)) oa a.length oc a rfl hk (by omega)) rfl rfl rfl rfl (by repeat (first | exact Takes.nil | apply Takes.dup rfl | apply Takes.cons | exact Take1.here | apply Take1.there)) ?_ | refine G.callU (caps := []) (joined_sp (.vec 9 1 oa a.length oc (flat eO a)) oa a.length oc a rfl hk (by omega)) rfl rfl rfl (by repeat (first | exact Takes.nil | apply Takes.dup rfl | apply Takes.cons | exact Take1.here | apply Take1.there)) ?_
    rintro v_ give_ ⟨rfl, rfl⟩ rs_ hrs_
    simp only [List.cons_append, List.nil_append] at hrs_
    subst hrs_
    repeat (first | (apply G.ex (hd := rfl); case h => (first | exact Ex.assign rfl | exact Ex.pickLT rfl rfl)) | refine G.nil ?_ | refine GC.ret ?_ | refine GE.then_normal ?_)
    refine GE.ret (by first | exact .inl rfl | exact .inr rfl) (by first | exact res0 Tryd.results5 | exact res1 Tryd.results5 rfl | exact res2 Tryd.results5 rfl rfl | exact resR1 Tryd.results5 (by first | exact RV.tmp rfl | exact RV.cell rfl (eP_len _) | exact RV.cell rfl rfl | exact RV.cell1 rfl) | exact resR2 Tryd.results5 (by first | exact RV.tmp rfl | exact RV.cell rfl (eP_len _) | exact RV.cell rfl rfl | exact RV.cell1 rfl) (by first | exact RV.tmp rfl | exact RV.cell rfl (eP_len _) | exact RV.cell rfl rfl | exact RV.cell1 rfl) | exact resR3 Tryd.results5 (by first | exact RV.tmp rfl | exact RV.cell rfl (eP_len _) | exact RV.cell rfl rfl | exact RV.cell1 rfl) (by first | exact RV.tmp rfl | exact RV.cell rfl (eP_len _) | exact RV.cell rfl rfl | exact RV.cell1 rfl) (by first | exact RV.tmp rfl | exact RV.cell rfl (eP_len _) | exact RV.cell rfl rfl | exact RV.cell1 rfl)) ⟨rfl, rfl⟩ (by repeat (first | exact Takes.nil | apply Takes.dup rfl | apply Takes.cons | exact Take1.here | apply Take1.there)) (by repeat (first | exact Subs.refl | refine Subs.skip ?_))
end path
end Go.Proofs.YtjfdpfjngajnlaaDoor
