/-
  CONTRACT of packthreadkeep.HuffFull, by the kit.
-/
import Derived.Test.YtfkgchdbjfbdaaaHuffTwice
namespace Go.Proofs.Ytfkgchdbjfbdaaa
open Go.RowKit
attribute [local irreducible] Ex G GC GE Gq FPost LPost
set_option linter.unusedVariables false
set_option linter.unusedSimpArgs false
namespace huff
set_option maxHeartbeats 16000000 in
theorem huffFull_sp (a0 : Option Addr) (len0 cap0 : Nat) (z0 : List Int) (hl0 : z0.length = len0) (hb0 : len0 ≤ 9223372036854775807) (hw0 : ∀ z ∈ z0, -9223372036854775808 ≤ z ∧ z ≤ 9223372036854775807) :
    Spec Try.prog 4 [.slice a0 len0 cap0] [.sl a0 len0 cap0 1 (flat (eI .i64) z0)] fun v give => v = .bool true ∧ give = [] := by
  refine Spec.intro Try.func4 rfl Try.ntmps4 rfl fun w0 rest rs_ hrs_ => ?_
  simp only [List.cons_append, List.nil_append] at hrs_
  subst hrs_
  repeat (first | (apply G.ex (hd := rfl); case h => (first | exact Ex.move rfl | exact Ex.assign rfl)) | refine G.nil ?_ | refine GC.seq ?_ | refine GC.region ?_ | refine GE.then_normal ?_)
  first | refine G.call (caps := []) (counts_sp a0 len0 cap0 z0 hl0 hb0 hw0 40 (by decide)) rfl rfl rfl rfl (by repeat first | exact tn_ | apply td_ rfl | apply tc_ | exact .here | apply Take1.there) ?_ | refine G.callU (caps := []) (counts_sp a0 len0 cap0 z0 hl0 hb0 hw0 40 (by decide)) rfl rfl rfl (by repeat first | exact tn_ | apply td_ rfl | apply tc_ | exact .here | apply Take1.there) ?_
  rintro v_ give_ ⟨C, ca, cc, hC, rfl, rfl⟩ rs_ hrs_
  simp only [List.cons_append, List.nil_append] at hrs_
  subst hrs_
  have hCn : C.length ≤ 40 := by rw [hC, List.length_map, List.length_take]; omega
  have hCi : ∀ z ∈ C, 0 ≤ z ∧ z ≤ 1048576 := by rw [hC]; exact counts_in
  clear hC
  repeat (first | (apply G.ex (hd := rfl); case h => (first | exact Ex.move rfl | exact Ex.assign rfl)) | refine G.nil ?_ | refine GC.seq ?_ | refine GC.region ?_ | refine GE.then_normal ?_)
  first | refine G.call (caps := []) (lengthsOf_sp (.vec 3 1 ca C.length cc (flat (eI .i64) C)) ca C.length cc C rfl (by omega) hCi) rfl rfl rfl rfl (by repeat first | exact tn_ | apply td_ rfl | apply tc_ | exact .here | apply Take1.there) ?_ | refine G.callU (caps := []) (lengthsOf_sp (.vec 3 1 ca C.length cc (flat (eI .i64) C)) ca C.length cc C rfl (by omega) hCi) rfl rfl rfl (by repeat first | exact tn_ | apply td_ rfl | apply tc_ | exact .here | apply Take1.there) ?_
  rintro v_ give_ ⟨out, oa, oc, hol, h0, hg, rfl, rfl⟩ rs_ hrs_
  simp only [List.cons_append, List.nil_append] at hrs_
  subst hrs_
  have hm := sup_len (c := cN C) (n := C.length)
  have pos : ∀ i, i < C.length → 0 ≤ C.getD i default ∧ cN C i = (C.getD i default).toNat ∧ 0 ≤ out.getD i default ∧ out.getD i default ≤ 40 ∧ (C.getD i default > 0 ↔ out.getD i default > 0) := fun i hi => by
    have a := hCi _ (getD_in hi)
    have b := h0 (out.getD i default) (getD_in (by omega))
    have c : cN C i = (C.getD i default).toNat := rfl
    by_cases z : cN C i = 0
    · have := hg.none i hi z
      omega
    · have := hg.some i hi (by omega)
      omega
  have less : ∀ i k, i < C.length → k < C.length → 0 < C.getD i default → C.getD i default < C.getD k default → out.getD k default ≤ out.getD i default := fun i k hi hk h h2 => by
    have a := pos i hi; have b := pos k hk
    have := hg.less hi hk (by omega) (by omega)
    omega
  obtain ⟨S, hS⟩ : ∃ S, S = sumTo (fun i => if cN C i = 0 then 0 else 2 ^ (40 - (out.getD i default).toNat)) := ⟨_, rfl⟩
  have b3 : ∀ i, i ≤ C.length → S i ≤ i * 1099511627776 := fun i hi => by
    rw [hS]; exact sumTo_bd fun j hj => by
      show (if cN C j = 0 then 0 else 2 ^ (40 - (out.getD j default).toNat)) ≤ _
      split
      · omega
      · exact Nat.le_trans (Nat.pow_le_pow_right (by decide) (Nat.sub_le ..)) (by decide)
  have s3 : ∀ i, S (i + 1) = S i + if cN C i = 0 then 0 else 2 ^ (40 - (out.getD i default).toNat) := fun i => by rw [hS]; rfl
  have e3 : S 0 = 0 := by rw [hS]; rfl
  have full : 2 ≤ (sup (cN C) C.length).length → S C.length = 1099511627776 := fun h => by
    rw [hS]; exact (hg.full h 40 (by omega)).trans (by decide)
  clear hS
  repeat (first | (apply G.ex (hd := rfl); case h => (first | exact Ex.move rfl | exact Ex.extract rfl rfl | exact Ex.assign rfl | exact Ex.notB rfl)) | refine G.nil ?_ | refine GC.seq ?_ | refine GC.region ?_ | refine GC.block ?_ | refine GC.skip ?_ | refine GE.then_normal ?_ | refine GC.cond_f rfl ?_)
  refine GC.loop (ι := Nat × Nat) (fun x => x.1 ≤ C.length ∧ x.2 = S x.1) (fun x => C.length - x.1) (fun x => [(3, .slice ca C.length cc), (4, .slice oa C.length oc), (5, .int .i64 ((sup (cN C) C.length).length : Int)), (7, .int .i64 (x.2 : Int)), (8, .int .i64 (x.1 : Int))]) (fun x => [.vec 3 1 oa C.length oc (flat (eI .i64) out), .vec 3 1 ca C.length cc (flat (eI .i64) C)]) (0, 0) ⟨Nat.zero_le _, e3.symm⟩ (by simp only [fits]; repeat (first | exact trivial | refine And.intro rfl ?_)) (by repeat first | exact tn_ | apply td_ rfl | apply tc_ | exact .here | apply Take1.there) ?_
  rintro ⟨x, v1⟩ ⟨hx, hv1⟩ fr_ rs_ hfr_ hrs_
  simp only [List.cons_append, List.nil_append] at hfr_ hrs_
  subst hfr_ hrs_
  simp only at hx hv1
  by_cases h1 : x < C.length
  · have px := pos x h1
    have nb : ¬ ¬ (decide (C.getD x default > 0) = decide (out.getD x default > 0)) := fun h => h (decide_eq_decide.2 px.2.2.2.2)
    have l0 : ¬ out.getD x default < 0 := by omega
    have l40 : ¬ out.getD x default > 40 := by omega
    have b3x := b3 x (by omega)
    have s3x := s3 x
    rw [← hv1] at b3x s3x
    obtain ⟨T, hT⟩ : ∃ T : Nat, T = S (x + 1) := ⟨_, rfl⟩
    rw [← hT] at s3x
    repeat ((fail_if_success (refine GC.seq ?_; refine GC.region (id := 11) ?_)); first | (apply G.ex (hd := rfl); case h => (first | exact Ex.move rfl | exact Ex.lss rfl rfl | exact Ex.lenSl rfl)) | refine G.nil ?_ | (apply Gq.ex (hd := rfl); case h => (first | exact Ex.move rfl | exact Ex.lss rfl rfl | exact Ex.gtr rfl rfl | exact Ex.indexN rfl rfl (by first | omega | (simp; done) | (simp; omega)) | exact Ex.loadT0 rfl (by first | omega | (simp; done) | (simp; omega)) rfl | exact Ex.neB rfl rfl | exact Ex.pickF rfl (by first | assumption | omega) rfl)) | refine Gq.g_ff rfl rfl (by first | assumption | omega) ?_ | refine Gq.nil ?_ | refine GC.seq ?_ | refine GC.region ?_ | refine GC.draw (by kernel_rfl) (by kernel_rfl) ?_ | refine GC.block ?_ | refine GC.skip ?_ | refine GE.then_normal ?_ | refine GC.cond_yes rfl (by first | assumption | omega) ?_ | refine GC.cond_no rfl (by first | assumption | omega) ?_)
    refine GC.meet (ι := Unit) (fun _ => True) (fun _ => [(3, .slice ca C.length cc), (4, .slice oa C.length oc), (5, .int .i64 ((sup (cN C) C.length).length : Int)), (7, .int .i64 (T : Int)), (8, .int .i64 (x : Int))]) (fun _ => [.vec 3 1 oa C.length oc (flat (eI .i64) out), .vec 3 1 ca C.length cc (flat (eI .i64) C)]) (.sl a0 len0 cap0 1 (flat (eI .i64) z0) :: rest) ?_ ?_
    · clear less pos full b3 s3 hg h0 hCi
      by_cases hp : out.getD x default > 0
      · rw [if_neg (show ¬ cN C x = 0 by omega)] at s3x
        obtain ⟨O, hO⟩ : ∃ O : Nat, out.getD x default = (O : Int) := ⟨(out.getD x default).toNat, by omega⟩
        rw [show (out.getD x default).toNat = O by omega] at s3x
        obtain ⟨p, hpp⟩ : ∃ p : Nat, 2 ^ (40 - O) = p := ⟨_, rfl⟩
        have hp2 : p ≤ 1099511627776 := by rw [← hpp]; exact Nat.le_trans (Nat.pow_le_pow_right (by decide) (Nat.sub_le ..)) (by decide)
        rw [hpp] at s3x
        repeat (first | (apply G.ex (hd := rfl); case h => (first | exact Ex.move rfl | exact Ex.sub rfl rfl (by omega) | exact Ex.gtr rfl rfl | exact Ex.indexN rfl rfl (by first | omega | (simp; done) | (simp; omega)) | exact Ex.loadT0 rfl (by first | omega | (simp; done) | (simp; omega)) rfl)) | refine G.nil ?_ | refine GC.seq ?_ | refine GC.region ?_ | refine GE.then_normal ?_ | refine GC.cond_yes rfl (by first | assumption | omega) ?_)
        rw [show (40 : Int) - out.getD x default = ((40 - O : Nat) : Int) by omega]
        refine G.ex (hd := rfl) (Ex.shl1 (k := 40 - O) rfl rfl (by omega)) ?_
        rw [hpp]
        repeat (first | (apply G.ex (hd := rfl); case h => (first | exact Ex.add rfl rfl (by omega) | exact Ex.assign rfl)) | refine G.nil ?_)
        rw [show (v1 : Int) + (p : Int) = (T : Int) by omega]
        refine GE.meet () trivial (by simp only [fits]; repeat (first | exact trivial | refine And.intro rfl ?_)) (by repeat first | exact tn_ | apply td_ rfl | apply tc_ | exact .here | apply Take1.there) (by repeat (first | exact Subs.refl | refine Subs.skip ?_))
      · rw [if_pos (show cN C x = 0 by omega), Nat.add_zero] at s3x
        have e7 : v1 = T := s3x.symm
        rw [e7]
        repeat (first | (apply G.ex (hd := rfl); case h => (first | exact Ex.move rfl | exact Ex.gtr rfl rfl | exact Ex.indexN rfl rfl (by first | omega | (simp; done) | (simp; omega)) | exact Ex.loadT0 rfl (by first | omega | (simp; done) | (simp; omega)) rfl)) | refine G.nil ?_ | refine GC.seq ?_ | refine GC.region ?_ | refine GC.skip ?_ | refine GE.then_normal ?_ | refine GC.cond_no rfl (by first | assumption | omega) ?_)
        refine GE.meet () trivial (by simp only [fits]; repeat (first | exact trivial | refine And.intro rfl ?_)) (by repeat first | exact tn_ | apply td_ rfl | apply tc_ | exact .here | apply Take1.there) (by repeat (first | exact Subs.refl | refine Subs.skip ?_))
    rintro _ _ fr_ rs_ hfr_ hrs_
    simp only [List.cons_append, List.nil_append] at hfr_ hrs_
    subst hfr_ hrs_
    clear s3x b3x nb l0 l40
    repeat (first | (apply G.ex (hd := rfl); case h => (first | exact Ex.assign rfl)) | refine G.nil ?_ | refine GC.seq ?_ | refine GC.region ?_ | refine GC.block ?_ | refine GE.then_normal ?_)
    refine GC.loop (ι := Nat) (fun k => k ≤ x) (fun k => x - k) (fun k => [(3, .slice ca C.length cc), (4, .slice oa C.length oc), (5, .int .i64 ((sup (cN C) C.length).length : Int)), (7, .int .i64 ((T : Nat) : Int)), (8, .int .i64 (x : Int)), (9, .int .i64 (k : Int))]) (fun k => [.vec 3 1 oa C.length oc (flat (eI .i64) out), .vec 3 1 ca C.length cc (flat (eI .i64) C)]) 0 (Nat.zero_le _) (by simp only [fits]; repeat (first | exact trivial | refine And.intro rfl ?_)) (by repeat first | exact tn_ | apply td_ rfl | apply tc_ | exact .here | apply Take1.there) ?_
    rintro k hk fr_ rs_ hfr_ hrs_
    simp only [List.cons_append, List.nil_append] at hfr_ hrs_
    subst hfr_ hrs_
    by_cases h2 : k < x
    · have pk := pos k (by omega)
      have hlx := less x k h1 (by omega)
      have hlk := less k x (by omega) h1
      by_cases c1 : C.getD k default > 0
      · by_cases c2 : C.getD x default > 0
        · by_cases c3 : C.getD k default < C.getD x default
          · have d3 : ¬ out.getD k default < out.getD x default := by have := hlk c1 c3; omega
            have c4 : ¬ C.getD k default > C.getD x default := by omega
            clear px pk hlx hlk less pos full b3 s3 hg h0 hCi hm hv1 e3 hl0 hb0 hw0 hT
            repeat (first | (apply G.ex (hd := rfl); case h => (first | exact Ex.move rfl | exact Ex.add rfl rfl (by omega) | exact Ex.lss rfl rfl | exact Ex.assign rfl)) | refine G.nil ?_ | (apply Gq.ex (hd := rfl); case h => (first | exact Ex.move rfl | exact Ex.lss rfl rfl | exact Ex.gtr rfl rfl | exact Ex.indexN rfl rfl (by first | omega | (simp; done) | (simp; omega)) | exact Ex.loadT0 rfl (by first | omega | (simp; done) | (simp; omega)) rfl | exact Ex.pickT rfl (by first | assumption | omega) rfl | exact Ex.pickF rfl (by first | assumption | omega) rfl)) | refine Gq.g_tt rfl rfl (by first | assumption | omega) ?_ | refine Gq.g_tf rfl rfl (by first | assumption | omega) rfl ?_ | refine Gq.g_ff rfl rfl (by first | assumption | omega) ?_ | refine Gq.nil ?_ | refine GC.seq ?_ | refine GC.region ?_ | refine GC.draw (by kernel_rfl) (by kernel_rfl) ?_ | refine GC.block ?_ | refine GC.skip ?_ | refine GE.then_normal ?_ | refine GE.block_normal ?_ | refine GC.cond_yes rfl (by first | assumption | omega) ?_ | refine GC.cond_f rfl ?_)
            rw [show (k : Int) + 1 = ((k + 1 : Nat) : Int) by omega]
            refine GE.loop (k + 1) (by omega) (by omega) (by simp only [fits]; repeat (first | exact trivial | refine And.intro rfl ?_)) (by repeat first | exact tn_ | apply td_ rfl | apply tc_ | exact .here | apply Take1.there) (by repeat (first | exact Subs.refl | refine Subs.skip ?_))
          · by_cases c4 : C.getD k default > C.getD x default
            · have d4 : ¬ out.getD k default > out.getD x default := by have := hlx c2 c4; omega
              clear px pk hlx hlk less pos full b3 s3 hg h0 hCi hm hv1 e3 hl0 hb0 hw0 hT
              repeat (first | (apply G.ex (hd := rfl); case h => (first | exact Ex.move rfl | exact Ex.add rfl rfl (by omega) | exact Ex.lss rfl rfl | exact Ex.assign rfl)) | refine G.nil ?_ | (apply Gq.ex (hd := rfl); case h => (first | exact Ex.move rfl | exact Ex.lss rfl rfl | exact Ex.gtr rfl rfl | exact Ex.indexN rfl rfl (by first | omega | (simp; done) | (simp; omega)) | exact Ex.loadT0 rfl (by first | omega | (simp; done) | (simp; omega)) rfl | exact Ex.pickT rfl (by first | assumption | omega) rfl | exact Ex.pickF rfl (by first | assumption | omega) rfl | exact Ex.pickLF rfl rfl)) | refine Gq.g_tt rfl rfl (by first | assumption | omega) ?_ | refine Gq.g_tf rfl rfl (by first | assumption | omega) rfl ?_ | refine Gq.yes rfl rfl ?_ | refine Gq.nil ?_ | refine GC.seq ?_ | refine GC.region ?_ | refine GC.draw (by kernel_rfl) (by kernel_rfl) ?_ | refine GC.block ?_ | refine GC.skip ?_ | refine GE.then_normal ?_ | refine GE.block_normal ?_ | refine GC.cond_yes rfl (by first | assumption | omega) ?_ | refine GC.cond_no rfl (by first | assumption | omega) ?_)
              rw [show (k : Int) + 1 = ((k + 1 : Nat) : Int) by omega]
              refine GE.loop (k + 1) (by omega) (by omega) (by simp only [fits]; repeat (first | exact trivial | refine And.intro rfl ?_)) (by repeat first | exact tn_ | apply td_ rfl | apply tc_ | exact .here | apply Take1.there) (by repeat (first | exact Subs.refl | refine Subs.skip ?_))
            · clear px pk hlx hlk less pos full b3 s3 hg h0 hCi hm hv1 e3 hl0 hb0 hw0 hT
              repeat (first | (apply G.ex (hd := rfl); case h => (first | exact Ex.move rfl | exact Ex.add rfl rfl (by omega) | exact Ex.lss rfl rfl | exact Ex.assign rfl)) | refine G.nil ?_ | (apply Gq.ex (hd := rfl); case h => (first | exact Ex.move rfl | exact Ex.lss rfl rfl | exact Ex.gtr rfl rfl | exact Ex.indexN rfl rfl (by first | omega | (simp; done) | (simp; omega)) | exact Ex.loadT0 rfl (by first | omega | (simp; done) | (simp; omega)) rfl | exact Ex.pickT rfl (by first | assumption | omega) rfl | exact Ex.pickF rfl (by first | assumption | omega) rfl | exact Ex.pickLF rfl rfl)) | refine Gq.g_tt rfl rfl (by first | assumption | omega) ?_ | refine Gq.g_tf rfl rfl (by first | assumption | omega) rfl ?_ | refine Gq.yes rfl rfl ?_ | refine Gq.nil ?_ | refine GC.seq ?_ | refine GC.region ?_ | refine GC.draw (by kernel_rfl) (by kernel_rfl) ?_ | refine GC.block ?_ | refine GC.skip ?_ | refine GE.then_normal ?_ | refine GE.block_normal ?_ | refine GC.cond_yes rfl (by first | assumption | omega) ?_ | refine GC.cond_f rfl ?_)
              rw [show (k : Int) + 1 = ((k + 1 : Nat) : Int) by omega]
              refine GE.loop (k + 1) (by omega) (by omega) (by simp only [fits]; repeat (first | exact trivial | refine And.intro rfl ?_)) (by repeat first | exact tn_ | apply td_ rfl | apply tc_ | exact .here | apply Take1.there) (by repeat (first | exact Subs.refl | refine Subs.skip ?_))
        · clear px pk hlx hlk less pos full b3 s3 hg h0 hCi hm hv1 e3 hl0 hb0 hw0 hT
          repeat (first | (apply G.ex (hd := rfl); case h => (first | exact Ex.move rfl | exact Ex.add rfl rfl (by omega) | exact Ex.lss rfl rfl | exact Ex.assign rfl)) | refine G.nil ?_ | (apply Gq.ex (hd := rfl); case h => (first | exact Ex.move rfl | exact Ex.gtr rfl rfl | exact Ex.indexN rfl rfl (by first | omega | (simp; done) | (simp; omega)) | exact Ex.loadT0 rfl (by first | omega | (simp; done) | (simp; omega)) rfl | exact Ex.pickT rfl (by first | assumption | omega) rfl | exact Ex.pickF rfl (by first | assumption | omega) rfl)) | refine Gq.g_tt rfl rfl (by first | assumption | omega) ?_ | refine Gq.g_tf rfl rfl (by first | assumption | omega) rfl ?_ | refine Gq.g_un rfl rfl rfl ?_ | refine Gq.nil ?_ | refine GC.seq ?_ | refine GC.region ?_ | refine GC.draw (by kernel_rfl) (by kernel_rfl) ?_ | refine GC.block ?_ | refine GC.skip ?_ | refine GE.then_normal ?_ | refine GE.block_normal ?_ | refine GC.cond_yes rfl (by first | assumption | omega) ?_ | refine GC.cond_f rfl ?_)
          rw [show (k : Int) + 1 = ((k + 1 : Nat) : Int) by omega]
          refine GE.loop (k + 1) (by omega) (by omega) (by simp only [fits]; repeat (first | exact trivial | refine And.intro rfl ?_)) (by repeat first | exact tn_ | apply td_ rfl | apply tc_ | exact .here | apply Take1.there) (by repeat (first | exact Subs.refl | refine Subs.skip ?_))
      · clear px pk hlx hlk less pos full b3 s3 hg h0 hCi hm hv1 e3 hl0 hb0 hw0 hT
        repeat (first | (apply G.ex (hd := rfl); case h => (first | exact Ex.move rfl | exact Ex.add rfl rfl (by omega) | exact Ex.lss rfl rfl | exact Ex.assign rfl)) | refine G.nil ?_ | (apply Gq.ex (hd := rfl); case h => (first | exact Ex.move rfl | exact Ex.gtr rfl rfl | exact Ex.indexN rfl rfl (by first | omega | (simp; done) | (simp; omega)) | exact Ex.loadT0 rfl (by first | omega | (simp; done) | (simp; omega)) rfl | exact Ex.pickF rfl (by first | assumption | omega) rfl | exact Ex.pickLF rfl rfl)) | refine Gq.g_tf rfl rfl (by first | assumption | omega) rfl ?_ | refine Gq.g_un rfl rfl rfl ?_ | refine Gq.l_tf rfl rfl rfl ?_ | refine Gq.nil ?_ | refine GC.seq ?_ | refine GC.region ?_ | refine GC.draw (by kernel_rfl) (by kernel_rfl) ?_ | refine GC.block ?_ | refine GC.skip ?_ | refine GE.then_normal ?_ | refine GE.block_normal ?_ | refine GC.cond_yes rfl (by first | assumption | omega) ?_ | refine GC.cond_f rfl ?_)
        rw [show (k : Int) + 1 = ((k + 1 : Nat) : Int) by omega]
        refine GE.loop (k + 1) (by omega) (by omega) (by simp only [fits]; repeat (first | exact trivial | refine And.intro rfl ?_)) (by repeat first | exact tn_ | apply td_ rfl | apply tc_ | exact .here | apply Take1.there) (by repeat (first | exact Subs.refl | refine Subs.skip ?_))
    · obtain rfl : k = x := by omega
      repeat (first | (apply G.ex (hd := rfl); case h => (first | exact Ex.move rfl | exact Ex.add rfl rfl (by omega) | exact Ex.lss rfl rfl | exact Ex.assign rfl)) | refine G.nil ?_ | refine GC.seq ?_ | refine GC.region ?_ | refine GC.exit ?_ | refine GE.then_normal ?_ | refine GE.then_exit ?_ | refine GE.block_normal ?_ | refine GE.block_hit ?_ | refine GC.cond_no rfl (by first | assumption | omega) ?_)
      rw [show (k : Int) + 1 = ((k + 1 : Nat) : Int) by omega]
      refine GE.loop (k + 1, T) ⟨by simp only; omega, by simp only; exact hT⟩ (by simp only; omega) (by simp only [fits]; repeat (first | exact trivial | refine And.intro rfl ?_)) (by repeat first | exact tn_ | apply td_ rfl | apply tc_ | exact .here | apply Take1.there) (by repeat (first | exact Subs.refl | refine Subs.skip ?_))
  · obtain rfl : x = C.length := by omega
    by_cases m2 : ((sup (cN C) C.length).length : Int) < 2
    · repeat (first | (apply G.ex (hd := rfl); case h => (first | exact Ex.move rfl | exact Ex.lss rfl rfl | exact Ex.lenSl rfl | exact Ex.assign rfl | exact Ex.pickT rfl (by first | assumption | omega) rfl)) | refine G.g_ft rfl rfl (by first | assumption | omega) rfl ?_ | refine G.nil ?_ | refine GC.seq ?_ | refine GC.region ?_ | refine GC.ret ?_ | refine GC.exit ?_ | refine GE.then_normal ?_ | refine GE.then_exit ?_ | refine GE.block_hit ?_ | refine GC.cond_no rfl (by first | assumption | omega) ?_)
      refine GE.ret (by first | exact .inl rfl | exact .inr rfl) (res1 Try.results4 rfl) ⟨by simp [m2], rfl⟩ (by repeat first | exact tn_ | apply td_ rfl | apply tc_ | exact .here | apply Take1.there) (by repeat (first | exact Subs.refl | refine Subs.skip ?_))
    · have hv : (v1 : Int) = 1099511627776 := by rw [hv1, full (by omega)]; rfl
      repeat (first | (apply G.ex (hd := rfl); case h => (first | exact Ex.move rfl | exact Ex.lss rfl rfl | exact Ex.eqI rfl rfl | exact Ex.lenSl rfl | exact Ex.assign rfl | exact Ex.pickF rfl (by first | assumption | omega) rfl)) | refine G.g_ff rfl rfl (by first | assumption | omega) ?_ | refine G.nil ?_ | refine GC.seq ?_ | refine GC.region ?_ | refine GC.ret ?_ | refine GC.exit ?_ | refine GE.then_normal ?_ | refine GE.then_exit ?_ | refine GE.block_hit ?_ | refine GC.cond_no rfl (by first | assumption | omega) ?_)
      refine GE.ret (by first | exact .inl rfl | exact .inr rfl) (res1 Try.results4 rfl) ⟨by simp [m2, hv], rfl⟩ (by repeat first | exact tn_ | apply td_ rfl | apply tc_ | exact .here | apply Take1.there) (by repeat (first | exact Subs.refl | refine Subs.skip ?_))
end huff
end Go.Proofs.Ytfkgchdbjfbdaaa
