/-
  THE LAW FrameCuts, by the kit.
-/
import Derived.Test.YtcabcpealkbekaaFrame3
namespace Go.Proofs.Ytcabcpealkbekaa
open Go.RowKit
attribute [local irreducible] Ex G GC GE Gq FPost LPost
set_option linter.unusedVariables false
set_option linter.unusedSimpArgs false

namespace frame
theorem beg : ∀ (F : List (List UInt8)), (∀ b ∈ F, b.length ≤ 1024) → ∀ k, ∃ F1 r, (∀ b ∈ F1, b.length ≤ 1024) ∧ wrap F1 ++ r = (wrap F).take k ∧ stop r ∧ ¬ big r
  | [], _, k => ⟨[], [], by simp, by simp [wrap], stop_nil, fun h => by have := h.1; simp at this⟩
  | b :: F, h, k => by
    have hb := h b (by simp)
    by_cases hk : k < (fr b).length
    · refine ⟨[], (fr b).take k, by simp, ?_, stop_part b k hk hb, not_big_part b k hb⟩
      rw [wrap_cons, List.take_append_of_le_length (by omega)]; simp [wrap]
    · obtain ⟨F1, r, g1, g2, g3, g4⟩ := beg F (fun x hx => h x (by simp [hx])) (k - (fr b).length)
      refine ⟨b :: F1, r, ?_, ?_, g3, g4⟩
      · intro x hx
        rcases List.mem_cons.1 hx with rfl | hx
        · exact hb
        · exact g1 x hx
      · rw [wrap_cons, wrap_cons, List.append_assoc, g2, List.take_append, List.take_of_length_le (l := fr b) (by omega)]
theorem wrap_ge : ∀ F : List (List UInt8), 4 * F.length ≤ (wrap F).length
  | [] => by simp [wrap]
  | b :: F => by have := wrap_ge F; rw [wrap_cons, List.length_append, fr_len, List.length_cons]; omega
theorem dats_app (A B : List (SlD UInt8)) : dats (A ++ B) = dats A ++ dats B := by simp [dats]
set_option maxHeartbeats 4000000 in
theorem frameCuts_sp (a0 : Option Addr) (len0 cap0 : Nat) (z0 : List (SlD UInt8)) (hl0 : z0.length = len0) (hb0 : len0 ≤ 9223372036854775807) (hz0 : ∀ x ∈ z0, x.l.length = x.n ∧ x.n ≤ 9223372036854775807) (a1 : Option Addr) (len1 cap1 : Nat) (z1 : List Int) (hl1 : z1.length = len1) (hb1 : len1 ≤ 9223372036854775807) (hw1 : ∀ z ∈ z1, -9223372036854775808 ≤ z ∧ z ≤ 9223372036854775807) :
    Spec Try.prog 5 [.slice a0 len0 cap0, .slice a1 len1 cap1] [.sl a0 len0 cap0 1 (flat eS z0), .per (Rd eB 1 z0), .sl a1 len1 cap1 1 (flat (eI .i64) z1)] fun v give => v = .bool true ∧ give = [] := by
  refine Spec.intro Try.func5 rfl Try.ntmps5 rfl fun w0 rest rs_ hrs_ => ?_
  simp only [List.cons_append, List.nil_append] at hrs_
  subst hrs_
  repeat (first | (apply G.ex (hd := rfl); case h => (first | exact Ex.move rfl | exact Ex.assign rfl)) | refine G.nil ?_ | refine GC.seq ?_ | refine GC.region ?_ | refine GE.then_normal ?_)
  first | refine G.call (caps := []) (wrapped_sp a0 len0 cap0 z0 hl0 hb0 hz0 20 (by omega)) rfl rfl rfl rfl (by repeat (first | exact Takes.nil | apply Takes.dup rfl | apply Takes.cons | exact Take1.here | apply Take1.there)) ?_ | refine G.callU (caps := []) (wrapped_sp a0 len0 cap0 z0 hl0 hb0 hz0 20 (by omega)) rfl rfl rfl (by repeat (first | exact Takes.nil | apply Takes.dup rfl | apply Takes.cons | exact Take1.here | apply Take1.there)) ?_
  rintro v_ give_ ⟨B, oa, oc, ba, bc, rfl, hB, hBn, rfl⟩ rs_ hrs_
  simp only [List.cons_append, List.nil_append] at hrs_
  subst hrs_
  have hwl := wrap_len (dats B) 100 (hB.dats (Nat.le_refl _))
  rw [show (dats B).length = B.length by rw [dats, List.length_map]] at hwl
  have hwl2 : (wrap (dats B)).length ≤ 2080 := by omega
  clear hwl
  generalize hW : wrap (dats B) = W at *
  first | refine G.frz oa ?_ | refine GC.frz oa ?_ | refine GE.frz oa ?_
  repeat (first | (apply G.ex (hd := rfl); case h => (first | exact Ex.move rfl | exact Ex.extract rfl rfl | exact Ex.assign rfl)) | refine G.nil ?_ | refine GC.seq ?_ | refine GC.region ?_ | refine GE.then_normal ?_)
  refine G.lit rfl (by rfl) (by rfl) (by rfl) (by rfl) (by rfl) (by rfl) rfl (fun q => ?_)
  change @G _ _ _ _ _ _ _ (.vec 5 1 q 1 1 (flat eB [9]) :: _)
  first | refine G.frz q ?_ | refine GC.frz q ?_ | refine GE.frz q ?_
  first | refine G.call (caps := []) (wrap_sp q 1 1 [9] rfl (by omega)) rfl rfl rfl rfl (by repeat (first | exact Takes.nil | apply Takes.dup rfl | apply Takes.cons | exact Take1.here | apply Take1.there)) ?_ | refine G.callU (caps := []) (wrap_sp q 1 1 [9] rfl (by omega)) rfl rfl rfl (by repeat (first | exact Takes.nil | apply Takes.dup rfl | apply Takes.cons | exact Take1.here | apply Take1.there)) ?_
  rintro v_ give_ ⟨xa, xc, rfl, rfl⟩ rs_ hrs_
  simp only [List.cons_append, List.nil_append] at hrs_
  subst hrs_
  rw [show (fr [9]).length = 5 from rfl]
  repeat (first | (apply G.ex (hd := rfl); case h => (first | exact Ex.move rfl | exact Ex.neI rfl rfl | exact Ex.lenSl rfl | exact Ex.extract rfl rfl | exact Ex.assign rfl | exact Ex.notB rfl | exact Ex.pickF rfl (by first | assumption | omega) rfl | exact Ex.pickLF rfl rfl)) | refine G.g_ff rfl rfl (by first | assumption | omega) ?_ | refine G.yes rfl rfl ?_ | refine G.nil ?_ | refine GC.seq ?_ | refine GC.region ?_ | refine GC.block ?_ | refine GC.skip ?_ | refine GE.then_normal ?_ | refine GC.cond_no rfl (by first | assumption | omega) ?_)
  first | refine G.nilvec 35 1 ?_ | refine GC.nilvec 35 1 ?_
  refine GC.conv (fun w_ H_ => H_.rdNil eB 1) ?_
  first | refine G.nilvec 5 1 ?_ | refine GC.nilvec 5 1 ?_
  first | refine G.frz none ?_ | refine GC.frz none ?_ | refine GE.frz none ?_
  refine GC.loop (ι := Nat × Nat × List (SlD UInt8) × Option Addr × Nat × List UInt8 × Option Addr × Nat) (fun i => W.take i.1 = wrap (dats i.2.2.1) ++ i.2.2.2.2.2.1 ∧ stop i.2.2.2.2.2.1 ∧ ¬ big i.2.2.2.2.2.1 ∧ Fit 1024 i.2.2.1 ∧ i.1 ≤ W.length ∧ i.2.1 ≤ i.1) (fun i => W.length - i.1) (fun i => [(1, .slice a1 len1 cap1), (5, .slice oa W.length oc), (6, .slice ba B.length bc), (10, .slice i.2.2.2.1 i.2.2.1.length i.2.2.2.2.1), (11, .slice i.2.2.2.2.2.2.1 i.2.2.2.2.2.1.length i.2.2.2.2.2.2.2), (12, .int .i64 (i.1 : Int)), (13, .int .i64 (i.2.1 : Int))]) (fun i => [.vec 35 1 i.2.2.2.1 i.2.2.1.length i.2.2.2.2.1 (flat eS i.2.2.1), .per (Rd eB 1 i.2.2.1), .sl i.2.2.2.2.2.2.1 i.2.2.2.2.2.1.length i.2.2.2.2.2.2.2 1 (flat eB i.2.2.2.2.2.1), .sl oa W.length oc 1 (flat eB W), .sl ba B.length bc 1 (flat eS B), .per (Rd eB 1 B), .sl a1 len1 cap1 1 (flat (eI .i64) z1)]) (0, 0, [], none, 0, [], none, 0) ⟨by simp [wrap, dats], stop_nil, fun h => by have := h.1; simp at this, fun x hx => by simp at hx, Nat.zero_le _, Nat.le_refl _⟩ (by simp only [fits]; repeat (first | exact trivial | refine And.intro rfl ?_)) (by repeat (first | exact Takes.nil | apply Takes.dup rfl | apply Takes.cons | exact Take1.here | apply Take1.there)) ?_
  rintro ⟨at_, i, A, ga, gc, R, ra, rc⟩ ⟨h1, h2, h3, h4, h5, h6⟩ fr_ rs_ hfr_ hrs_
  simp only [List.cons_append, List.nil_append] at hfr_ hrs_
  subst hfr_ hrs_
  simp only at h1 h2 h3 h4 h5 h6
  repeat (first | (apply G.ex (hd := rfl); case h => (first | exact Ex.move rfl | exact Ex.lss rfl rfl | exact Ex.lenSl rfl)) | refine G.nil ?_ | refine GC.seq ?_ | refine GC.region ?_ | refine GE.then_normal ?_)
  refine GC.cond_dec rfl (fun hlt => ?_) (fun hlt => ?_)
  · have hlt : at_ < W.length := by omega
    by_cases hc : i < len1
    · have hzb := hw1 (z1.getD i default) (by rw [List.getD_eq_getElem?_getD, List.getElem?_eq_getElem (by omega)]; exact List.getElem_mem _)
      repeat (first | (apply G.ex (hd := rfl); case h => (first | exact Ex.move rfl | exact Ex.lss rfl rfl | exact Ex.lenSl rfl | exact Ex.indexN rfl rfl (by first | omega | (simp; done) | (simp; omega)) | exact Ex.loadT0 rfl (by first | omega | (simp; done) | (simp; omega)) rfl | exact Ex.assign rfl)) | refine G.nil ?_ | refine GC.seq ?_ | refine GC.region ?_ | refine GC.block ?_ | refine GC.skip ?_ | refine GE.then_normal ?_ | refine GC.cond_yes rfl (by first | assumption | omega) ?_)
      first | refine G.call (caps := []) (picked_sp (z1.getD i default) 40 (by omega) (by omega)) rfl rfl rfl rfl (by repeat (first | exact Takes.nil | apply Takes.dup rfl | apply Takes.cons | exact Take1.here | apply Take1.there)) ?_ | refine G.callU (caps := []) (picked_sp (z1.getD i default) 40 (by omega) (by omega)) rfl rfl rfl (by repeat (first | exact Takes.nil | apply Takes.dup rfl | apply Takes.cons | exact Take1.here | apply Take1.there)) ?_
      rintro v_ give_ ⟨rfl, rfl⟩ rs_ hrs_
      simp only [List.cons_append, List.nil_append] at hrs_
      subst hrs_
      obtain ⟨n, hn, hn1, hn2⟩ : ∃ n : Nat, 1 + z1.getD i default % 40 = (n : Int) ∧ 1 ≤ n ∧ n ≤ 40 := ⟨(1 + z1.getD i default % 40).toNat, by omega, by omega, by omega⟩
      first | (apply G.ex (hd := rfl); case h => (first | exact Ex.add rfl rfl (by omega)))
      rw [hn]
      repeat (first | (apply G.ex (hd := rfl); case h => (first | exact Ex.move rfl | exact Ex.add rfl rfl (by omega) | exact Ex.lenSl rfl | exact Ex.assign rfl | exact Ex.min rfl rfl)) | refine G.nil ?_ | refine GC.seq ?_ | refine GC.region ?_ | refine GE.then_normal ?_)
      obtain ⟨T, hT0, hT1, hT2⟩ : ∃ T : Nat, T = min (at_ + n) W.length ∧ at_ < T ∧ T ≤ W.length := ⟨_, rfl, by omega, by omega⟩
      rw [show min ((at_ : Int) + (n : Int)) (W.length : Int) = (T : Int) by omega]
      refine G.sub (l := at_) (r := T) rfl rfl (by first | exact .inl ⟨rfl, rfl⟩ | exact .inr ⟨_, _, rfl, ev_int rfl (by omega)⟩) (by first | exact .inl ⟨rfl, rfl⟩ | exact .inr ⟨_, _, rfl, ev_int rfl (by omega)⟩) (by omega) rfl (rfl) (fun s1 => ?_)
      rw [flat_cut (enc := eB) (s := 1) inferInstance W at_ T]
      have hT : W.take T = wrap (dats A) ++ (R ++ (W.drop at_).take (T - at_)) := by
        rw [← List.append_assoc, ← h1, ← List.take_add, show at_ + (T - at_) = T by omega]
      have hpl : ((W.drop at_).take (T - at_)).length = T - at_ := by rw [List.length_take, List.length_drop]; omega
      have hcond : ∀ F r, (∀ x ∈ F, x.length ≤ 1024) → stop r → R ++ (W.drop at_).take (T - at_) = wrap F ++ r → ¬ big r := fun F r k1 k2 k3 => by
        obtain ⟨F1, r1, g1, g2, g3, g4⟩ := beg (dats B) (hB.dats (by omega)) T
        rw [hW, hT, k3, ← List.append_assoc, ← wrap_app] at g2
        exact (wrap_inj (fun x hx => (List.mem_append.1 hx).elim (h4.dats (Nat.le_refl _) x) (k1 x)) g1 k2 g3 g2.symm).2 ▸ g4
      generalize (W.drop at_).take (T - at_) = Y at *
      have hRl := stop_len h2 h3
      first | refine G.call (caps := []) (feed_ok_sp ra R.length rc R rfl hRl s1 (T - at_) (oc - at_) Y hpl (by omega) hcond) rfl rfl rfl rfl (by repeat (first | exact Takes.nil | apply Takes.dup rfl | apply Takes.cons | exact Take1.here | apply Take1.there)) ?_ | refine G.callU (caps := []) (feed_ok_sp ra R.length rc R rfl hRl s1 (T - at_) (oc - at_) Y hpl (by omega) hcond) rfl rfl rfl (by repeat (first | exact Takes.nil | apply Takes.dup rfl | apply Takes.cons | exact Take1.here | apply Take1.there)) ?_
      rintro v_ give_ ⟨A2, R2, fa, fc, ra2, rc2, rfl, he, hA2, hs2, hn2, rfl⟩ rs_ hrs_
      simp only [List.cons_append, List.nil_append] at hrs_
      subst hrs_
      have hl1 := wrap_ge (dats A)
      have hl2 := wrap_ge (dats A2)
      have hl3 := congrArg List.length h1
      have hl4 := congrArg List.length he
      rw [show (dats A).length = A.length by rw [dats, List.length_map]] at hl1
      rw [show (dats A2).length = A2.length by rw [dats, List.length_map]] at hl2
      rw [List.length_take, List.length_append] at hl3
      rw [List.length_append, List.length_append] at hl4
      have hAb : A.length ≤ 1000 := by omega
      have hA2b : A2.length ≤ 1000 := by omega
      clear hl1 hl2 hl3 hl4
      first | refine G.frz ra2 ?_ | refine GC.frz ra2 ?_ | refine GE.frz ra2 ?_
      repeat (first | (apply G.ex (hd := rfl); case h => (first | exact Ex.move rfl | exact Ex.neI rfl rfl | exact Ex.extract rfl rfl | exact Ex.assign rfl)) | refine G.nil ?_ | refine GC.seq ?_ | refine GC.region ?_ | refine GC.skip ?_ | refine GE.then_normal ?_ | refine GC.cond_no rfl (by first | assumption | omega) ?_)
      have hcat : flat eS A ++ flat eS A2 = flat eS (A ++ A2) := (flat_append ..).symm
      refine G.app rfl rfl (by rfl) (by omega) rfl (hcat) (fun g2 c2 rs_ hrs_ => ?_)
      try simp only at hrs_
      subst hrs_
      rw [show A.length + A2.length = (A ++ A2).length by simp]
      refine G.conv (fun w_ H_ => Holds.rdApp (H_.take (need := [.per (Rd eB 1 A), .per (Rd eB 1 A2)]) (by repeat (first | exact Takes.nil | apply Takes.dup rfl | apply Takes.cons | exact Take1.here | apply Take1.there)))) ?_
      try simp only [List.append_eq, List.nil_append, List.cons_append]
      have h1' : W.take T = wrap (dats (A ++ A2)) ++ R2 := by
        rw [hT, he, ← List.append_assoc, ← wrap_app, dats_app]
      repeat (first | (apply G.ex (hd := rfl); case h => (first | exact Ex.move rfl | exact Ex.add rfl rfl (by omega) | exact Ex.assign rfl)) | refine G.nil ?_ | refine GC.seq ?_ | refine GC.region ?_ | refine GE.then_normal ?_ | refine GE.block_normal ?_)
      refine GE.loop (T, i + 1, A ++ A2, g2, c2, R2, ra2, rc2) ⟨h1', hs2, hn2, h4.app hA2, by simp only; omega, by simp only; omega⟩ (by simp only; omega) (by simp only [fits]; repeat (first | exact trivial | refine And.intro rfl ?_)) (by repeat (first | exact Takes.nil | apply Takes.dup rfl | apply Takes.cons | exact Take1.here | apply Take1.there)) (by repeat (first | exact Subs.refl | refine Subs.skip ?_))
    · repeat (first | (apply G.ex (hd := rfl); case h => (first | exact Ex.move rfl | exact Ex.add rfl rfl (by omega) | exact Ex.lss rfl rfl | exact Ex.lenSl rfl | exact Ex.assign rfl | exact Ex.min rfl rfl)) | refine G.nil ?_ | refine GC.seq ?_ | refine GC.region ?_ | refine GC.block ?_ | refine GC.skip ?_ | refine GE.then_normal ?_ | refine GC.cond_no rfl (by first | assumption | omega) ?_)
      obtain ⟨T, hT0, hT1, hT2⟩ : ∃ T : Nat, T = min (at_ + 7) W.length ∧ at_ < T ∧ T ≤ W.length := ⟨_, rfl, by omega, by omega⟩
      rw [show min ((at_ : Int) + 7) (W.length : Int) = (T : Int) by omega]
      refine G.sub (l := at_) (r := T) rfl rfl (by first | exact .inl ⟨rfl, rfl⟩ | exact .inr ⟨_, _, rfl, ev_int rfl (by omega)⟩) (by first | exact .inl ⟨rfl, rfl⟩ | exact .inr ⟨_, _, rfl, ev_int rfl (by omega)⟩) (by omega) rfl (rfl) (fun s1 => ?_)
      rw [flat_cut (enc := eB) (s := 1) inferInstance W at_ T]
      have hT : W.take T = wrap (dats A) ++ (R ++ (W.drop at_).take (T - at_)) := by
        rw [← List.append_assoc, ← h1, ← List.take_add, show at_ + (T - at_) = T by omega]
      have hpl : ((W.drop at_).take (T - at_)).length = T - at_ := by rw [List.length_take, List.length_drop]; omega
      have hcond : ∀ F r, (∀ x ∈ F, x.length ≤ 1024) → stop r → R ++ (W.drop at_).take (T - at_) = wrap F ++ r → ¬ big r := fun F r k1 k2 k3 => by
        obtain ⟨F1, r1, g1, g2, g3, g4⟩ := beg (dats B) (hB.dats (by omega)) T
        rw [hW, hT, k3, ← List.append_assoc, ← wrap_app] at g2
        exact (wrap_inj (fun x hx => (List.mem_append.1 hx).elim (h4.dats (Nat.le_refl _) x) (k1 x)) g1 k2 g3 g2.symm).2 ▸ g4
      generalize (W.drop at_).take (T - at_) = Y at *
      have hRl := stop_len h2 h3
      first | refine G.call (caps := []) (feed_ok_sp ra R.length rc R rfl hRl s1 (T - at_) (oc - at_) Y hpl (by omega) hcond) rfl rfl rfl rfl (by repeat (first | exact Takes.nil | apply Takes.dup rfl | apply Takes.cons | exact Take1.here | apply Take1.there)) ?_ | refine G.callU (caps := []) (feed_ok_sp ra R.length rc R rfl hRl s1 (T - at_) (oc - at_) Y hpl (by omega) hcond) rfl rfl rfl (by repeat (first | exact Takes.nil | apply Takes.dup rfl | apply Takes.cons | exact Take1.here | apply Take1.there)) ?_
      rintro v_ give_ ⟨A2, R2, fa, fc, ra2, rc2, rfl, he, hA2, hs2, hn2, rfl⟩ rs_ hrs_
      simp only [List.cons_append, List.nil_append] at hrs_
      subst hrs_
      have hl1 := wrap_ge (dats A)
      have hl2 := wrap_ge (dats A2)
      have hl3 := congrArg List.length h1
      have hl4 := congrArg List.length he
      rw [show (dats A).length = A.length by rw [dats, List.length_map]] at hl1
      rw [show (dats A2).length = A2.length by rw [dats, List.length_map]] at hl2
      rw [List.length_take, List.length_append] at hl3
      rw [List.length_append, List.length_append] at hl4
      have hAb : A.length ≤ 1000 := by omega
      have hA2b : A2.length ≤ 1000 := by omega
      clear hl1 hl2 hl3 hl4
      first | refine G.frz ra2 ?_ | refine GC.frz ra2 ?_ | refine GE.frz ra2 ?_
      repeat (first | (apply G.ex (hd := rfl); case h => (first | exact Ex.move rfl | exact Ex.neI rfl rfl | exact Ex.extract rfl rfl | exact Ex.assign rfl)) | refine G.nil ?_ | refine GC.seq ?_ | refine GC.region ?_ | refine GC.skip ?_ | refine GE.then_normal ?_ | refine GC.cond_no rfl (by first | assumption | omega) ?_)
      have hcat : flat eS A ++ flat eS A2 = flat eS (A ++ A2) := (flat_append ..).symm
      refine G.app rfl rfl (by rfl) (by omega) rfl (hcat) (fun g2 c2 rs_ hrs_ => ?_)
      try simp only at hrs_
      subst hrs_
      rw [show A.length + A2.length = (A ++ A2).length by simp]
      refine G.conv (fun w_ H_ => Holds.rdApp (H_.take (need := [.per (Rd eB 1 A), .per (Rd eB 1 A2)]) (by repeat (first | exact Takes.nil | apply Takes.dup rfl | apply Takes.cons | exact Take1.here | apply Take1.there)))) ?_
      try simp only [List.append_eq, List.nil_append, List.cons_append]
      have h1' : W.take T = wrap (dats (A ++ A2)) ++ R2 := by
        rw [hT, he, ← List.append_assoc, ← wrap_app, dats_app]
      repeat (first | (apply G.ex (hd := rfl); case h => (first | exact Ex.move rfl | exact Ex.add rfl rfl (by omega) | exact Ex.assign rfl)) | refine G.nil ?_ | refine GC.seq ?_ | refine GC.region ?_ | refine GE.then_normal ?_ | refine GE.block_normal ?_)
      refine GE.loop (T, i + 1, A ++ A2, g2, c2, R2, ra2, rc2) ⟨h1', hs2, hn2, h4.app hA2, by simp only; omega, by simp only; omega⟩ (by simp only; omega) (by simp only [fits]; repeat (first | exact trivial | refine And.intro rfl ?_)) (by repeat (first | exact Takes.nil | apply Takes.dup rfl | apply Takes.cons | exact Take1.here | apply Take1.there)) (by repeat (first | exact Subs.refl | refine Subs.skip ?_))
  · have hat : at_ = W.length := by omega
    rw [hat, List.take_length] at h1
    obtain ⟨e1, e2⟩ := wrap_inj (r := []) (s := R) (hB.dats (by omega)) (h4.dats (Nat.le_refl _)) stop_nil h2 (by rw [List.append_nil, hW, h1])
    subst e2
    have hAB : A.length = B.length := by have := congrArg List.length e1; simp only [dats, List.length_map] at this; omega
    repeat (first | (apply G.ex (hd := rfl); case h => (first | exact Ex.move rfl)) | refine GC.seq ?_ | refine GC.region ?_ | refine GC.exit ?_ | refine GE.then_normal ?_ | refine GE.then_exit ?_ | refine GE.block_hit ?_)
    first | refine G.frz ga ?_ | refine GC.frz ga ?_ | refine GE.frz ga ?_
    first | refine G.call (caps := []) (sameLists_sp ga A.length gc A rfl ba B.length bc B rfl (by omega) (by omega) (fun x hx => ⟨(h4 x hx).1, by have := (h4 x hx).2; omega⟩) (fun x hx => ⟨(hB x hx).1, by have := (hB x hx).2; omega⟩)) rfl rfl rfl rfl (by repeat (first | exact Takes.nil | apply Takes.dup rfl | apply Takes.cons | exact Take1.here | apply Take1.there)) ?_ | refine G.callU (caps := []) (sameLists_sp ga A.length gc A rfl ba B.length bc B rfl (by omega) (by omega) (fun x hx => ⟨(h4 x hx).1, by have := (h4 x hx).2; omega⟩) (fun x hx => ⟨(hB x hx).1, by have := (hB x hx).2; omega⟩)) rfl rfl rfl (by repeat (first | exact Takes.nil | apply Takes.dup rfl | apply Takes.cons | exact Take1.here | apply Take1.there)) ?_
    rintro v_ give_ ⟨rfl, rfl⟩ rs_ hrs_
    simp only [List.cons_append, List.nil_append] at hrs_
    subst hrs_
    rw [decide_eq_true e1.symm]
    repeat (first | (apply G.ex (hd := rfl); case h => (first | exact Ex.move rfl | exact Ex.eqI rfl rfl | exact Ex.lenSl rfl | exact Ex.assign rfl | exact Ex.pickLT rfl rfl)) | refine G.yes rfl rfl ?_ | refine G.nil ?_ | refine GC.ret ?_ | refine GE.then_normal ?_)
    refine GE.ret (by first | exact .inl rfl | exact .inr rfl) (by first | exact res0 Try.results5 | exact res1 Try.results5 rfl | exact res2 Try.results5 rfl rfl | exact resR1 Try.results5 (by first | exact RV.tmp rfl | exact RV.cell rfl rfl | exact RV.cell1 rfl) | exact resR2 Try.results5 (by first | exact RV.tmp rfl | exact RV.cell rfl rfl | exact RV.cell1 rfl) (by first | exact RV.tmp rfl | exact RV.cell rfl rfl | exact RV.cell1 rfl) | exact resR3 Try.results5 (by first | exact RV.tmp rfl | exact RV.cell rfl rfl | exact RV.cell1 rfl) (by first | exact RV.tmp rfl | exact RV.cell rfl rfl | exact RV.cell1 rfl) (by first | exact RV.tmp rfl | exact RV.cell rfl rfl | exact RV.cell1 rfl)) ⟨by simp, rfl⟩ (by repeat (first | exact Takes.nil | apply Takes.dup rfl | apply Takes.cons | exact Take1.here | apply Take1.there)) (by repeat (first | exact Subs.refl | refine Subs.skip ?_))
end frame
end Go.Proofs.Ytcabcpealkbekaa
