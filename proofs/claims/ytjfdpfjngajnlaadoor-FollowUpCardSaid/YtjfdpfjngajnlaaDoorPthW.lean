/-
  CONTRACTS of packthreadkeep.joined, CleanFixed, FollowTwo, FollowUp.
-/
import Derived.Test.YtjfdpfjngajnlaaDoorPthL
namespace Go.Proofs.YtjfdpfjngajnlaaDoor
open Go.RowKit
attribute [local irreducible] Ex G GC GE Gq FPost LPost
set_option linter.unusedVariables false
set_option linter.unusedSimpArgs false
namespace path
theorem clean_at (p : List UInt8) (hp : p.length ≤ 9223372036854775807) (a : List (List UInt8)) (e : Int) (h : walkF [] p = (a, e)) :
    Spec Tryd.prog 6 [.string (sOf p)] [] fun v give => ∃ oa oc, v = .tuple #[.slice oa a.length oc, .int .i64 e] ∧ a.length ≤ 12 ∧ give = [.vec 9 1 oa a.length oc (flat eO a)] := by
  have := clean_sp p hp; rw [h] at this; exact this
theorem follow_at (r : Res) (ao : Option Addr) (n c : Nat) (l : List (List UInt8)) [hr : RdR r ao n c 1 (flat eO l)] (hl : l.length = n) (hk : NamesOk l) (p : List UInt8) (hp : p.length ≤ 9223372036854775807) (a : List (List UInt8)) (e : Int) (h : followF l p = (a, e)) :
    Spec Tryd.prog 10 [.slice ao n c, .string (sOf p)] [r] fun v give => ∃ oa oc, v = .tuple #[.slice oa a.length oc, .int .i64 e] ∧ a.length ≤ 12 ∧ give = [.vec 9 1 oa a.length oc (flat eO a), r] := by
  have := follow_sp r ao n c l hl hk p hp; rw [h] at this; exact this
theorem joined_sp (r : Res) (ao : Option Addr) (n c : Nat) (l : List (List UInt8)) [hr : RdR r ao n c 1 (flat eO l)] (hl : l.length = n) (hk : NamesOk l) (hj : (joinF l).length ≤ 200) :
    Spec Tryd.prog 11 [.slice ao n c] [r] fun v give => v = .bool true ∧ give = [r] := by
  have h12 := hk.1
  have hcj := clean_join l hk hj
  have e2 : joinF [[120], [121]] = [47, 120, 47, 121] := by decide
  refine Spec.intro Tryd.func11 rfl Tryd.ntmps11 rfl fun w0 rest rs_ hrs_ => ?_
  simp only [List.cons_append, List.nil_append] at hrs_
  subst hrs_
  repeat (first | (apply G.ex (hd := rfl); case h => (first | exact Ex.move rfl | exact Ex.assign rfl)) | refine G.nil ?_ | refine GC.seq ?_ | refine GC.region ?_ | refine GE.then_normal ?_)
  first | refine G.call (caps := []) (pjoin_sp r ao n c l hl hk) rfl rfl rfl rfl (by repeat (first | exact Takes.nil | apply Takes.dup rfl | apply Takes.cons | exact Take1.here | apply Take1.there)) ?_ | refine G.callU (caps := []) (pjoin_sp r ao n c l hl hk) rfl rfl rfl (by repeat (first | exact Takes.nil | apply Takes.dup rfl | apply Takes.cons | exact Take1.here | apply Take1.there)) ?_
  rintro v_ give_ ⟨rfl, rfl⟩ rs_ hrs_
  simp only [List.cons_append, List.nil_append] at hrs_
  subst hrs_
  repeat (first | (apply G.ex (hd := rfl); case h => (first | exact Ex.move rfl | exact Ex.extract rfl rfl | exact Ex.assign rfl)) | refine G.nil ?_ | refine GC.seq ?_ | refine GC.region ?_ | refine GE.then_normal ?_)
  first | refine G.call (caps := []) (clean_at (joinF l) (by omega) l 0 hcj) rfl rfl rfl rfl (by repeat (first | exact Takes.nil | apply Takes.dup rfl | apply Takes.cons | exact Take1.here | apply Take1.there)) ?_ | refine G.callU (caps := []) (clean_at (joinF l) (by omega) l 0 hcj) rfl rfl rfl (by repeat (first | exact Takes.nil | apply Takes.dup rfl | apply Takes.cons | exact Take1.here | apply Take1.there)) ?_
  rintro v_ give_ ⟨oa, oc, rfl, _, rfl⟩ rs_ hrs_
  simp only [List.cons_append, List.nil_append] at hrs_
  subst hrs_
  repeat (first | (apply G.ex (hd := rfl); case h => (first | exact Ex.move rfl | exact Ex.extract rfl rfl | exact Ex.assign rfl)) | refine G.nil ?_ | refine GC.seq ?_ | refine GC.region ?_ | refine GE.then_normal ?_)
  refine G.lit (size := 1) (len := 2) (zs := [.string ByteArray.empty]) (cells := flat eO [[120], [121]]) rfl (by rfl) rfl rfl (by rfl) rfl (by rfl) rfl (fun y => ?_)
  repeat (first | fail)
  first | refine G.call (caps := []) (pjoin_sp (.vec 9 1 y 2 2 (flat eO [[120], [121]])) y 2 2 [[120], [121]] rfl (by decide)) rfl rfl rfl rfl (by repeat (first | exact Takes.nil | apply Takes.dup rfl | apply Takes.cons | exact Take1.here | apply Take1.there)) ?_ | refine G.callU (caps := []) (pjoin_sp (.vec 9 1 y 2 2 (flat eO [[120], [121]])) y 2 2 [[120], [121]] rfl (by decide)) rfl rfl rfl (by repeat (first | exact Takes.nil | apply Takes.dup rfl | apply Takes.cons | exact Take1.here | apply Take1.there)) ?_
  rintro v_ give_ ⟨rfl, rfl⟩ rs_ hrs_
  simp only [List.cons_append, List.nil_append] at hrs_
  subst hrs_
  rw [e2]
  repeat (first | (apply G.ex (hd := rfl); case h => (first | exact Ex.move rfl | exact Ex.eqO rfl rfl | exact Ex.eqI rfl rfl | exact Ex.extract rfl rfl | exact Ex.assign rfl | exact Ex.pickT rfl (by first | assumption | omega) rfl)) | refine G.g_tt rfl rfl (by first | assumption | omega) ?_ | refine G.nil ?_ | refine GC.seq ?_ | refine GC.region ?_ | refine GE.then_normal ?_)
  first | refine G.call (caps := []) (texts_sp r (.vec 9 1 oa l.length oc (flat eO l)) ao oa n l.length c oc l l hl rfl (by omega) (by omega)) rfl rfl rfl rfl (by repeat (first | exact Takes.nil | apply Takes.dup rfl | apply Takes.cons | exact Take1.here | apply Take1.there)) ?_ | refine G.callU (caps := []) (texts_sp r (.vec 9 1 oa l.length oc (flat eO l)) ao oa n l.length c oc l l hl rfl (by omega) (by omega)) rfl rfl rfl (by repeat (first | exact Takes.nil | apply Takes.dup rfl | apply Takes.cons | exact Take1.here | apply Take1.there)) ?_
  rintro v_ give_ ⟨rfl, rfl⟩ rs_ hrs_
  simp only [List.cons_append, List.nil_append] at hrs_
  subst hrs_
  have hll : decide (l = l) = true := decide_eq_true rfl
  rw [hll]
  repeat (first | (apply G.ex (hd := rfl); case h => (first | exact Ex.assign rfl | exact Ex.pickT rfl (by first | assumption | omega) rfl)) | refine G.nil ?_ | refine GC.ret ?_ | refine GE.then_normal ?_)
  refine GE.ret (by first | exact .inl rfl | exact .inr rfl) (by first | exact res0 Tryd.results11 | exact res1 Tryd.results11 rfl | exact res2 Tryd.results11 rfl rfl | exact resR1 Tryd.results11 (by first | exact RV.tmp rfl | exact RV.cell rfl (eP_len _) | exact RV.cell rfl rfl | exact RV.cell1 rfl) | exact resR2 Tryd.results11 (by first | exact RV.tmp rfl | exact RV.cell rfl (eP_len _) | exact RV.cell rfl rfl | exact RV.cell1 rfl) (by first | exact RV.tmp rfl | exact RV.cell rfl (eP_len _) | exact RV.cell rfl rfl | exact RV.cell1 rfl) | exact resR3 Tryd.results11 (by first | exact RV.tmp rfl | exact RV.cell rfl (eP_len _) | exact RV.cell rfl rfl | exact RV.cell1 rfl) (by first | exact RV.tmp rfl | exact RV.cell rfl (eP_len _) | exact RV.cell rfl rfl | exact RV.cell1 rfl) (by first | exact RV.tmp rfl | exact RV.cell rfl (eP_len _) | exact RV.cell rfl rfl | exact RV.cell1 rfl)) ⟨rfl, rfl⟩ (by repeat (first | exact Takes.nil | apply Takes.dup rfl | apply Takes.cons | exact Take1.here | apply Take1.there)) (by repeat (first | exact Subs.refl | refine Subs.skip ?_))
theorem walk_err (p : List UInt8) (h : (walkF [] p).2 ≠ 0) : (walkF [] p).1 = [] := by
  unfold walkF at h ⊢
  split
  · rfl
  · rename_i c; rw [if_neg c] at h; exact goF_err _ _ h
theorem walk_ok (p : List UInt8) (a : List (List UInt8)) (h : walkF [] p = (a, 0)) : NamesOk a := by
  unfold walkF at h
  split at h
  · exact absurd (show (1 : Int) = 0 from congrArg Prod.snd h) (by decide)
  · exact goF_ok [] _ _ ⟨by decide, fun s hs => nomatch hs⟩ h
theorem walk_long (p : List UInt8) (h : 200 < p.length) : walkF [] p = ([], 1) := by unfold walkF; rw [if_pos h]
set_option maxHeartbeats 4000000 in
theorem cleanFixed_sp (a0 : ByteArray) (ha0 : a0.size ≤ 9223372036854775807) (a1 : Option Addr) (len1 cap1 : Nat) (z1 : List Int) (hl1 : z1.length = len1) (hb1 : len1 ≤ 9223372036854775807) (_ : ∀ z ∈ z1, -9223372036854775808 ≤ z ∧ z ≤ 9223372036854775807) :
    Spec Tryd.prog 3 [.string a0, .slice a1 len1 cap1] [.sl a1 len1 cap1 1 (flat (eI .i64) z1)] fun v give => v = .bool true ∧ give = [] := by
  obtain ⟨p, rfl⟩ : ∃ p, a0 = sOf p := ⟨a0.data.toList, rfl⟩
  rw [sOf_size] at ha0
  obtain ⟨a, hw, hk, hl, h11, _⟩ := pathO_names z1 9 (by decide)
  have hjl := joinF_len a 9 h11 hl
  have hcj := clean_join a hk (by omega)
  have hpl := pathO_len z1 9
  obtain ⟨jt, hjt⟩ : ∃ t, joinF a = 47 :: t := ⟨_, rfl⟩
  have hll : decide (a = a) = true := decide_eq_true rfl
  obtain ⟨b, e, hb⟩ : ∃ b e, walkF [] p = (b, e) := ⟨_, _, rfl⟩
  refine Spec.intro Tryd.func3 rfl Tryd.ntmps3 rfl fun w0 rest rs_ hrs_ => ?_
  simp only [List.cons_append, List.nil_append] at hrs_
  subst hrs_
  repeat (first | (apply G.ex (hd := rfl); case h => (first | exact Ex.move rfl | exact Ex.assign rfl)) | refine G.nil ?_ | refine GC.seq ?_ | refine GC.region ?_ | refine GE.then_normal ?_)
  first | refine G.call (caps := []) (pathOf_sp (.sl a1 len1 cap1 1 (flat (eI .i64) z1)) a1 len1 cap1 z1 hl1 hb1 9 (by decide)) rfl rfl rfl rfl (by repeat (first | exact Takes.nil | apply Takes.dup rfl | apply Takes.cons | exact Take1.here | apply Take1.there)) ?_ | refine G.callU (caps := []) (pathOf_sp (.sl a1 len1 cap1 1 (flat (eI .i64) z1)) a1 len1 cap1 z1 hl1 hb1 9 (by decide)) rfl rfl rfl (by repeat (first | exact Takes.nil | apply Takes.dup rfl | apply Takes.cons | exact Take1.here | apply Take1.there)) ?_
  rintro v_ give_ ⟨rfl, rfl⟩ rs_ hrs_
  simp only [List.cons_append, List.nil_append] at hrs_
  subst hrs_
  first | refine G.call (caps := []) (clean_at (pathO z1 9) (by omega) a 0 hw) rfl rfl rfl rfl (by repeat (first | exact Takes.nil | apply Takes.dup rfl | apply Takes.cons | exact Take1.here | apply Take1.there)) ?_ | refine G.callU (caps := []) (clean_at (pathO z1 9) (by omega) a 0 hw) rfl rfl rfl (by repeat (first | exact Takes.nil | apply Takes.dup rfl | apply Takes.cons | exact Take1.here | apply Take1.there)) ?_
  rintro v_ give_ ⟨oa, oc, rfl, _, rfl⟩ rs_ hrs_
  simp only [List.cons_append, List.nil_append] at hrs_
  subst hrs_
  repeat (first | (apply G.ex (hd := rfl); case h => (first | exact Ex.move rfl | exact Ex.extract rfl rfl | exact Ex.assign rfl)) | refine G.nil ?_ | refine GC.seq ?_ | refine GC.region ?_ | refine GE.then_normal ?_)
  first | refine G.call (caps := []) (pjoin_sp (.vec 9 1 oa a.length oc (flat eO a)) oa a.length oc a rfl hk) rfl rfl rfl rfl (by repeat (first | exact Takes.nil | apply Takes.dup rfl | apply Takes.cons | exact Take1.here | apply Take1.there)) ?_ | refine G.callU (caps := []) (pjoin_sp (.vec 9 1 oa a.length oc (flat eO a)) oa a.length oc a rfl hk) rfl rfl rfl (by repeat (first | exact Takes.nil | apply Takes.dup rfl | apply Takes.cons | exact Take1.here | apply Take1.there)) ?_
  rintro v_ give_ ⟨rfl, rfl⟩ rs_ hrs_
  simp only [List.cons_append, List.nil_append] at hrs_
  subst hrs_
  repeat (first | (apply G.ex (hd := rfl); case h => (first | exact Ex.move rfl | exact Ex.extract rfl rfl | exact Ex.assign rfl)) | refine G.nil ?_ | refine GC.seq ?_ | refine GC.region ?_ | refine GE.then_normal ?_)
  first | refine G.call (caps := []) (clean_at (joinF a) (by omega) a 0 hcj) rfl rfl rfl rfl (by repeat (first | exact Takes.nil | apply Takes.dup rfl | apply Takes.cons | exact Take1.here | apply Take1.there)) ?_ | refine G.callU (caps := []) (clean_at (joinF a) (by omega) a 0 hcj) rfl rfl rfl (by repeat (first | exact Takes.nil | apply Takes.dup rfl | apply Takes.cons | exact Take1.here | apply Take1.there)) ?_
  rintro v_ give_ ⟨ob, bc, rfl, _, rfl⟩ rs_ hrs_
  simp only [List.cons_append, List.nil_append] at hrs_
  subst hrs_
  repeat (first | (apply G.ex (hd := rfl); case h => (first | exact Ex.move rfl | exact Ex.neI rfl rfl | exact Ex.extract rfl rfl | exact Ex.assign rfl | exact Ex.pickF rfl (by first | assumption | omega) rfl)) | refine G.g_ff rfl rfl (by first | assumption | omega) ?_ | refine G.nil ?_ | refine GC.seq ?_ | refine GC.region ?_ | refine GE.then_normal ?_)
  first | refine G.call (caps := []) (texts_sp (.vec 9 1 oa a.length oc (flat eO a)) (.vec 9 1 ob a.length bc (flat eO a)) oa ob a.length a.length oc bc a a rfl rfl (by omega) (by omega)) rfl rfl rfl rfl (by repeat (first | exact Takes.nil | apply Takes.dup rfl | apply Takes.cons | exact Take1.here | apply Take1.there)) ?_ | refine G.callU (caps := []) (texts_sp (.vec 9 1 oa a.length oc (flat eO a)) (.vec 9 1 ob a.length bc (flat eO a)) oa ob a.length a.length oc bc a a rfl rfl (by omega) (by omega)) rfl rfl rfl (by repeat (first | exact Takes.nil | apply Takes.dup rfl | apply Takes.cons | exact Take1.here | apply Take1.there)) ?_
  rintro v_ give_ ⟨rfl, rfl⟩ rs_ hrs_
  simp only [List.cons_append, List.nil_append] at hrs_
  subst hrs_
  rw [hll, hjt]
  repeat (first | (apply G.ex (hd := rfl); case h => (first | exact Ex.move rfl | exact Ex.lenO rfl | exact Ex.eqI rfl rfl | exact Ex.notB rfl | exact Ex.pickF rfl (by first | assumption | omega) rfl | exact Ex.pickLF rfl rfl)) | refine G.g_ff rfl rfl (by first | assumption | omega) ?_ | refine G.yes rfl rfl ?_)
  refine G.ex (Ex.indexO (k := 0) (l := 47 :: jt) rfl rfl (Nat.succ_pos _)) rfl ?_
  repeat (first | (apply G.ex (hd := rfl); case h => (first | exact Ex.move rfl | exact Ex.neI rfl rfl | exact Ex.pickLF rfl rfl)) | refine G.yes rfl rfl ?_ | refine G.nil ?_ | refine GC.seq ?_ | refine GC.region ?_ | refine GC.skip ?_ | refine GE.then_normal ?_ | refine GC.cond_f rfl ?_)
  first | refine G.call (caps := []) (clean_at p ha0 b e hb) rfl rfl rfl rfl (by repeat (first | exact Takes.nil | apply Takes.dup rfl | apply Takes.cons | exact Take1.here | apply Take1.there)) ?_ | refine G.callU (caps := []) (clean_at p ha0 b e hb) rfl rfl rfl (by repeat (first | exact Takes.nil | apply Takes.dup rfl | apply Takes.cons | exact Take1.here | apply Take1.there)) ?_
  rintro v_ give_ ⟨oc2, cc2, rfl, _, rfl⟩ rs_ hrs_
  simp only [List.cons_append, List.nil_append] at hrs_
  subst hrs_
  repeat (first | (apply G.ex (hd := rfl); case h => (first | exact Ex.move rfl | exact Ex.neI rfl rfl | exact Ex.extract rfl rfl | exact Ex.assign rfl)) | refine G.nil ?_ | refine GC.seq ?_ | refine GC.region ?_ | refine GE.then_normal ?_)
  by_cases he : e = 0
  · subst he
    have hkb := walk_ok p b hb
    have hjb := join_len b (by have := hkb.1; omega) (ok_le hkb)
    have hjs : (joinF b).length ≤ 9223372036854775807 := by show (Lib.join b [47]).length + 1 ≤ _; omega
    repeat (first | (apply G.ex (hd := rfl); case h => (first | exact Ex.move rfl)) | refine GC.seq ?_ | refine GC.region ?_ | refine GC.skip ?_ | refine GE.then_normal ?_ | refine GC.cond_no rfl (by first | assumption | omega) ?_)
    first | refine G.call (caps := []) (pjoin_sp (.vec 9 1 oc2 b.length cc2 (flat eO b)) oc2 b.length cc2 b rfl hkb) rfl rfl rfl rfl (by repeat (first | exact Takes.nil | apply Takes.dup rfl | apply Takes.cons | exact Take1.here | apply Take1.there)) ?_ | refine G.callU (caps := []) (pjoin_sp (.vec 9 1 oc2 b.length cc2 (flat eO b)) oc2 b.length cc2 b rfl hkb) rfl rfl rfl (by repeat (first | exact Takes.nil | apply Takes.dup rfl | apply Takes.cons | exact Take1.here | apply Take1.there)) ?_
    rintro v_ give_ ⟨rfl, rfl⟩ rs_ hrs_
    simp only [List.cons_append, List.nil_append] at hrs_
    subst hrs_
    repeat (first | (apply G.ex (hd := rfl); case h => (first | exact Ex.move rfl | exact Ex.extract rfl rfl | exact Ex.assign rfl)) | refine G.nil ?_ | refine GC.seq ?_ | refine GC.region ?_ | refine GE.then_normal ?_)
    by_cases h200 : 200 < (joinF b).length
    · first | refine G.call (caps := []) (clean_at (joinF b) hjs [] 1 (walk_long _ h200)) rfl rfl rfl rfl (by repeat (first | exact Takes.nil | apply Takes.dup rfl | apply Takes.cons | exact Take1.here | apply Take1.there)) ?_ | refine G.callU (caps := []) (clean_at (joinF b) hjs [] 1 (walk_long _ h200)) rfl rfl rfl (by repeat (first | exact Takes.nil | apply Takes.dup rfl | apply Takes.cons | exact Take1.here | apply Take1.there)) ?_
      rintro v_ give_ ⟨od, dc, rfl, _, rfl⟩ rs_ hrs_
      simp only [List.cons_append, List.nil_append] at hrs_
      subst hrs_
      repeat (first | (apply G.ex (hd := rfl); case h => (first | exact Ex.move rfl | exact Ex.lenO rfl | exact Ex.gtr rfl rfl | exact Ex.eqI rfl rfl | exact Ex.extract rfl rfl | exact Ex.assign rfl | exact Ex.pickT rfl (by first | assumption | omega) rfl)) | refine G.g_tt rfl rfl (by first | assumption | omega) ?_ | refine G.nil ?_ | refine GC.seq ?_ | refine GC.region ?_ | refine GC.ret ?_ | refine GE.then_normal ?_ | refine GE.then_ret ?_ | refine GC.cond_yes rfl (by first | assumption | omega) ?_)
      refine GE.ret (by first | exact .inl rfl | exact .inr rfl) (by first | exact res0 Tryd.results3 | exact res1 Tryd.results3 rfl | exact res2 Tryd.results3 rfl rfl | exact resR1 Tryd.results3 (by first | exact RV.tmp rfl | exact RV.cell rfl (eP_len _) | exact RV.cell rfl rfl | exact RV.cell1 rfl) | exact resR2 Tryd.results3 (by first | exact RV.tmp rfl | exact RV.cell rfl (eP_len _) | exact RV.cell rfl rfl | exact RV.cell1 rfl) (by first | exact RV.tmp rfl | exact RV.cell rfl (eP_len _) | exact RV.cell rfl rfl | exact RV.cell1 rfl) | exact resR3 Tryd.results3 (by first | exact RV.tmp rfl | exact RV.cell rfl (eP_len _) | exact RV.cell rfl rfl | exact RV.cell1 rfl) (by first | exact RV.tmp rfl | exact RV.cell rfl (eP_len _) | exact RV.cell rfl rfl | exact RV.cell1 rfl) (by first | exact RV.tmp rfl | exact RV.cell rfl (eP_len _) | exact RV.cell rfl rfl | exact RV.cell1 rfl)) ⟨rfl, rfl⟩ (by repeat (first | exact Takes.nil | apply Takes.dup rfl | apply Takes.cons | exact Take1.here | apply Take1.there)) (by repeat (first | exact Subs.refl | refine Subs.skip ?_))
    · have hcb := clean_join b hkb (by omega)
      have hlb : decide (b = b) = true := decide_eq_true rfl
      first | refine G.call (caps := []) (clean_at (joinF b) hjs b 0 hcb) rfl rfl rfl rfl (by repeat (first | exact Takes.nil | apply Takes.dup rfl | apply Takes.cons | exact Take1.here | apply Take1.there)) ?_ | refine G.callU (caps := []) (clean_at (joinF b) hjs b 0 hcb) rfl rfl rfl (by repeat (first | exact Takes.nil | apply Takes.dup rfl | apply Takes.cons | exact Take1.here | apply Take1.there)) ?_
      rintro v_ give_ ⟨od, dc, rfl, _, rfl⟩ rs_ hrs_
      simp only [List.cons_append, List.nil_append] at hrs_
      subst hrs_
      repeat (first | (apply G.ex (hd := rfl); case h => (first | exact Ex.move rfl | exact Ex.lenO rfl | exact Ex.gtr rfl rfl | exact Ex.eqI rfl rfl | exact Ex.extract rfl rfl | exact Ex.assign rfl | exact Ex.pickT rfl (by first | assumption | omega) rfl)) | refine G.g_tt rfl rfl (by first | assumption | omega) ?_ | refine G.nil ?_ | refine GC.seq ?_ | refine GC.region ?_ | refine GC.skip ?_ | refine GE.then_normal ?_ | refine GC.cond_no rfl (by first | assumption | omega) ?_)
      first | refine G.call (caps := []) (texts_sp (.vec 9 1 oc2 b.length cc2 (flat eO b)) (.vec 9 1 od b.length dc (flat eO b)) oc2 od b.length b.length cc2 dc b b rfl rfl (by omega) (by omega)) rfl rfl rfl rfl (by repeat (first | exact Takes.nil | apply Takes.dup rfl | apply Takes.cons | exact Take1.here | apply Take1.there)) ?_ | refine G.callU (caps := []) (texts_sp (.vec 9 1 oc2 b.length cc2 (flat eO b)) (.vec 9 1 od b.length dc (flat eO b)) oc2 od b.length b.length cc2 dc b b rfl rfl (by omega) (by omega)) rfl rfl rfl (by repeat (first | exact Takes.nil | apply Takes.dup rfl | apply Takes.cons | exact Take1.here | apply Take1.there)) ?_
      rintro v_ give_ ⟨rfl, rfl⟩ rs_ hrs_
      simp only [List.cons_append, List.nil_append] at hrs_
      subst hrs_
      rw [hlb]
      repeat (first | (apply G.ex (hd := rfl); case h => (first | exact Ex.assign rfl | exact Ex.pickT rfl (by first | assumption | omega) rfl)) | refine G.nil ?_ | refine GC.ret ?_ | refine GE.then_normal ?_)
      refine GE.ret (by first | exact .inl rfl | exact .inr rfl) (by first | exact res0 Tryd.results3 | exact res1 Tryd.results3 rfl | exact res2 Tryd.results3 rfl rfl | exact resR1 Tryd.results3 (by first | exact RV.tmp rfl | exact RV.cell rfl (eP_len _) | exact RV.cell rfl rfl | exact RV.cell1 rfl) | exact resR2 Tryd.results3 (by first | exact RV.tmp rfl | exact RV.cell rfl (eP_len _) | exact RV.cell rfl rfl | exact RV.cell1 rfl) (by first | exact RV.tmp rfl | exact RV.cell rfl (eP_len _) | exact RV.cell rfl rfl | exact RV.cell1 rfl) | exact resR3 Tryd.results3 (by first | exact RV.tmp rfl | exact RV.cell rfl (eP_len _) | exact RV.cell rfl rfl | exact RV.cell1 rfl) (by first | exact RV.tmp rfl | exact RV.cell rfl (eP_len _) | exact RV.cell rfl rfl | exact RV.cell1 rfl) (by first | exact RV.tmp rfl | exact RV.cell rfl (eP_len _) | exact RV.cell rfl rfl | exact RV.cell1 rfl)) ⟨rfl, rfl⟩ (by repeat (first | exact Takes.nil | apply Takes.dup rfl | apply Takes.cons | exact Take1.here | apply Take1.there)) (by repeat (first | exact Subs.refl | refine Subs.skip ?_))
  · have hb0 : b = [] := by have := walk_err p (by rw [hb]; exact he); rw [hb] at this; exact this
    subst hb0
    repeat (first | (apply G.ex (hd := rfl); case h => (first | exact Ex.move rfl | exact Ex.eqI rfl rfl | exact Ex.lenSl rfl | exact Ex.assign rfl)) | refine G.nil ?_ | refine GC.seq ?_ | refine GC.region ?_ | refine GC.ret ?_ | refine GE.then_normal ?_ | refine GE.then_ret ?_ | refine GC.cond_yes rfl (by first | assumption | omega) ?_)
    refine GE.ret (by first | exact .inl rfl | exact .inr rfl) (by first | exact res0 Tryd.results3 | exact res1 Tryd.results3 rfl | exact res2 Tryd.results3 rfl rfl | exact resR1 Tryd.results3 (by first | exact RV.tmp rfl | exact RV.cell rfl (eP_len _) | exact RV.cell rfl rfl | exact RV.cell1 rfl) | exact resR2 Tryd.results3 (by first | exact RV.tmp rfl | exact RV.cell rfl (eP_len _) | exact RV.cell rfl rfl | exact RV.cell1 rfl) (by first | exact RV.tmp rfl | exact RV.cell rfl (eP_len _) | exact RV.cell rfl rfl | exact RV.cell1 rfl) | exact resR3 Tryd.results3 (by first | exact RV.tmp rfl | exact RV.cell rfl (eP_len _) | exact RV.cell rfl rfl | exact RV.cell1 rfl) (by first | exact RV.tmp rfl | exact RV.cell rfl (eP_len _) | exact RV.cell rfl rfl | exact RV.cell1 rfl) (by first | exact RV.tmp rfl | exact RV.cell rfl (eP_len _) | exact RV.cell rfl rfl | exact RV.cell1 rfl)) ⟨rfl, rfl⟩ (by repeat (first | exact Takes.nil | apply Takes.dup rfl | apply Takes.cons | exact Take1.here | apply Take1.there)) (by repeat (first | exact Subs.refl | refine Subs.skip ?_))
theorem parts47 (zs : List Int) (N : Nat) : ∀ p ∈ (zs.take N).map partF, 47 ∉ p := fun p hp => by
  obtain ⟨z, _, rfl⟩ := List.mem_map.1 hp; exact (part_ok z).2.2
theorem partsOk (zs : List Int) (N : Nat) : ∀ p ∈ (zs.take N).map partF, PartOk p := fun p hp => by
  obtain ⟨z, _, rfl⟩ := List.mem_map.1 hp; exact partF_ok z
theorem partsLen (zs : List Int) (N : Nat) : ((zs.take N).map partF).length ≤ N := by rw [List.length_map, List.length_take]; omega
/-- a path behind another one -/
theorem two_laws (z0 z1 : List Int) (a : List (List UInt8)) (ha : goF [] ((z0.take 5).map partF) = (a, 0)) (hal : a.length ≤ 5) : ∃ b c d, followF a ((pathO z1 5).drop (min 1 (pathO z1 5).length)) = (b, 0) ∧ walkF [] (pathO z0 5 ++ 47 :: pathO z1 5) = (c, 0) ∧
    walkF [] ((pathO z1 5).drop 1) = (d, 0) ∧ (((pathO z1 5).drop (min 1 (pathO z1 5).length)).take 1 = [47] → b = d) ∧ (¬ ((pathO z1 5).drop (min 1 (pathO z1 5).length)).take 1 = [47] → b = c) := by
  have hl0 := pathO_len z0 5
  have hl1 := pathO_len z1 5
  have hs0 := splitF_parts _ (parts47 z0 5)
  have hs1 := splitF_parts _ (parts47 z1 5)
  have hk := partsOk z1 5
  have hn := partsLen z1 5
  unfold pathO at hl0 hl1 ⊢
  generalize (z0.take 5).map partF = P at ha hs0 hl0 ⊢
  generalize (z1.take 5).map partF = Q at hs1 hl1 hk hn ⊢
  have h0 : goF [] ([] :: P) = (a, 0) := ha
  have hc : walkF [] (ofParts P ++ 47 :: ofParts Q) = goF a ([] :: Q) := by
    unfold walkF
    rw [if_neg (by simp only [List.length_append, List.length_cons]; omega), splitF_cat, hs0, hs1, goF_app _ _ _ _ h0]
  have hgq := goF_parts a Q hk (by omega)
  have hgd := goF_parts [] Q hk (by simp only [List.length_nil]; omega)
  have eq : goF a Q = ((goF a Q).1, 0) := Prod.ext rfl hgq.1
  have ed : goF [] Q = ((goF [] Q).1, 0) := Prod.ext rfl hgd.1
  cases hq : ofParts Q with
  | nil =>
    rw [hq] at hs1
    have hQ : Q = [] := by
      have : [[]] = [] :: Q := hs1
      exact (List.cons.inj this).2.symm
    subst hQ
    rw [hq] at hc
    exact ⟨a, a, [], rfl, hc, rfl, (fun h => nomatch h), fun _ => rfl⟩
  | cons y x =>
    have hy : y = 47 := by
      cases Q with
      | nil => exact nomatch hq
      | cons p t => exact (List.cons.inj (show 47 :: (p ++ ofParts t) = y :: x from hq)).1.symm
    subst hy
    rw [hq] at hs1 hl1 hc
    rw [splitF_cons, if_pos rfl] at hs1
    have hsx : splitF x = Q := (List.cons.inj hs1).2
    have hm : min 1 (47 :: x).length = 1 := by rw [List.length_cons]; omega
    rw [hm]
    simp only [List.drop_succ_cons, List.drop_zero]
    simp only [List.length_cons] at hl1
    have hw : ∀ o, walkF o x = goF o Q := fun o => by unfold walkF; rw [if_neg (by omega), hsx]
    refine ⟨if x.take 1 = [47] then (goF [] Q).1 else (goF a Q).1, (goF a Q).1, (goF [] Q).1, ?_, hc.trans eq, (hw []).trans ed, fun h => if_pos h, fun h => if_neg h⟩
    unfold followF
    by_cases hx : x.take 1 = [47]
    · rw [if_pos hx, if_pos hx, hw]; exact ed
    · rw [if_neg hx, if_neg hx, hw]; exact eq
/-- back -/
def upF (k : Nat) : List UInt8 := (List.replicate k [46, 46, 47]).flatten
theorem upF_len (k : Nat) : (upF k).length = 3 * k := by
  unfold upF
  induction k with
  | zero => rfl
  | succ k ih => rw [List.replicate_succ, List.flatten_cons, List.length_append, ih]; simp only [List.length_cons, List.length_nil]; omega
theorem upF_step (k : Nat) : upF k ++ [46, 46, 47] = upF (k + 1) := by
  unfold upF
  rw [List.replicate_succ', List.flatten_append]; simp
theorem upF_split (k : Nat) : splitF (upF k) = List.replicate k [46, 46] ++ [[]] := by
  induction k with
  | zero => rfl
  | succ k ih =>
    have : upF (k + 1) = 46 :: 46 :: 47 :: upF k := by unfold upF; rw [List.replicate_succ, List.flatten_cons]; rfl
    rw [this, splitF_cons, if_neg (by decide), splitF_cons, if_neg (by decide), splitF_cons, if_pos rfl, ih]; rfl
theorem goF_up (a : List (List UInt8)) (k : Nat) : goF a (List.replicate k [46, 46] ++ [[]]) = (a.take (a.length - k), 0) := by
  induction k generalizing a with
  | zero => rw [Nat.sub_zero, List.take_length]; rfl
  | succ k ih =>
    rw [List.replicate_succ, List.cons_append, goF_cons, if_neg (by decide), if_pos rfl, ih, List.dropLast_eq_take, List.length_take, List.take_take]
    congr 2
    omega
theorem up_laws (a : List (List UInt8)) (hl : a.length ≤ 8) (k : Nat) (hk : k < 20) : followF a [113, 47, 46, 46] = (a, 0) ∧ followF a (upF k) = (a.take (a.length - k), 0) ∧ followF a [47] = ([], 0) := by
  refine ⟨?_, ?_, rfl⟩
  · have e : followF a [113, 47, 46, 46] = goF a [[113], [46, 46]] := rfl
    rw [e, goF_cons, if_neg (by decide), if_neg (by decide), if_neg (by decide), if_neg (by omega), goF_cons, if_neg (by decide), if_pos rfl, List.dropLast_concat]; rfl
  · have h1 : ¬ (upF k).take 1 = [47] := by
      cases k with
      | zero => exact fun h => nomatch h
      | succ k => unfold upF; rw [List.replicate_succ, List.flatten_cons]; exact fun h => nomatch h
    unfold followF
    rw [if_neg h1]
    unfold walkF
    rw [if_neg (by rw [upF_len]; omega), upF_split, goF_up]
end path
end Go.Proofs.YtjfdpfjngajnlaaDoor
