/-
  CONTRACT of packthreadkeep.FairOrder: it returns true. By the kit.
-/
import Derived.Test.YtcabcpealkbekaaFairR
namespace Go.Proofs.Ytcabcpealkbekaa
open Go.RowKit
attribute [local irreducible] Ex G GC GE Gq FPost LPost
set_option linter.unusedVariables false
set_option linter.unusedSimpArgs false

namespace fair
set_option maxHeartbeats 4000000 in
set_option maxRecDepth 100000 in
theorem fairOrder_sp (a0 : Option Addr) (len0 cap0 : Nat) (z0 : List Int) (hl0 : z0.length = len0) (hb0 : len0 ≤ 9223372036854775807) (hw0 : ∀ z ∈ z0, -9223372036854775808 ≤ z ∧ z ≤ 9223372036854775807) (a1 : Option Addr) (len1 cap1 : Nat) (z1 : List Int) (hl1 : z1.length = len1) (hb1 : len1 ≤ 9223372036854775807) (hw1 : ∀ z ∈ z1, -9223372036854775808 ≤ z ∧ z ≤ 9223372036854775807) :
    Spec Try.prog 7 [.slice a0 len0 cap0, .slice a1 len1 cap1] [.sl a0 len0 cap0 1 (flat (eI .i64) z0), .sl a1 len1 cap1 1 (flat (eI .i64) z1)] fun v give => v = .bool true ∧ give = [] := by
  refine Spec.intro Try.func7 rfl Try.ntmps7 rfl fun w0 rest rs_ hrs_ => ?_
  simp only [List.cons_append, List.nil_append] at hrs_
  subst hrs_
  repeat (first | (apply G.ex (hd := rfl); case h => (first | exact Ex.move rfl | exact Ex.assign rfl)) | refine G.nil ?_ | refine GC.seq ?_ | refine GC.region ?_ | refine GE.then_normal ?_)
  first | refine G.call (caps := []) (feeds_sp a1 len1 cap1 z1 hl1 (by omega) hw1 200 (by decide)) rfl rfl rfl rfl (by repeat (first | exact Takes.nil | apply Takes.dup rfl | apply Takes.cons | exact Take1.here | apply Take1.there)) ?_ | refine G.callU (caps := []) (feeds_sp a1 len1 cap1 z1 hl1 (by omega) hw1 200 (by decide)) rfl rfl rfl (by repeat (first | exact Takes.nil | apply Takes.dup rfl | apply Takes.cons | exact Take1.here | apply Take1.there)) ?_
  rintro v_ give_ ⟨fa, fc, rfl, rfl⟩ rs_ hrs_
  simp only [List.cons_append, List.nil_append] at hrs_
  subst hrs_
  obtain ⟨N, hN⟩ : ∃ N, N = min len1 200 := ⟨_, rfl⟩
  obtain ⟨L, hL⟩ : ∃ L, L = feeds (z1.take N) := ⟨_, rfl⟩
  rw [← hN, ← hL]
  have hLl : L.length = N := by rw [hL, feeds, List.length_map, List.length_take]; omega
  have hLo : ∀ f ∈ L, f.1 < 3 ∧ 0 ≤ f.2 ∧ f.2 ≤ 150 := by rw [hL]; exact feeds_ok _
  repeat (first | (apply G.ex (hd := rfl); case h => (first | exact Ex.move rfl | exact Ex.assign rfl)) | refine G.nil ?_ | refine GC.seq ?_ | refine GC.region ?_ | refine GE.then_normal ?_)
  first | refine G.call (caps := []) (quanta_sp a0 len0 cap0 z0 hl0 (by omega) hw0) rfl rfl rfl rfl (by repeat (first | exact Takes.nil | apply Takes.dup rfl | apply Takes.cons | exact Take1.here | apply Take1.there)) ?_ | refine G.callU (caps := []) (quanta_sp a0 len0 cap0 z0 hl0 (by omega) hw0) rfl rfl rfl (by repeat (first | exact Takes.nil | apply Takes.dup rfl | apply Takes.cons | exact Take1.here | apply Take1.there)) ?_
  rintro v_ give_ ⟨qa, Q, rfl, hQl, hQ, rfl⟩ rs_ hrs_
  simp only [List.cons_append, List.nil_append] at hrs_
  subst hrs_
  repeat (first | (apply G.ex (hd := rfl); case h => (first | exact Ex.move rfl)))
  first | refine G.call (caps := []) (lined_sp (.vec 3 1 qa 3 3 (flat (eI .i64) Q)) qa 3 3 Q inferInstance hQl (by decide) (by decide) (fun q hq => by have := hQ q hq; omega) (.vec 57 2 fa N fc (flat eFd L)) fa N fc L inferInstance hLl (by omega) (fun f hf => by have := hLo f hf; omega)) rfl rfl rfl rfl (by repeat (first | exact Takes.nil | apply Takes.dup rfl | apply Takes.cons | exact Take1.here | apply Take1.there)) ?_ | refine G.callU (caps := []) (lined_sp (.vec 3 1 qa 3 3 (flat (eI .i64) Q)) qa 3 3 Q inferInstance hQl (by decide) (by decide) (fun q hq => by have := hQ q hq; omega) (.vec 57 2 fa N fc (flat eFd L)) fa N fc L inferInstance hLl (by omega) (fun f hf => by have := hLo f hf; omega)) rfl rfl rfl (by repeat (first | exact Takes.nil | apply Takes.dup rfl | apply Takes.cons | exact Take1.here | apply Take1.there)) ?_
  rintro v_ give_ ⟨oa, oc, os, s, hp, hos, rfl, rfl⟩ rs_ hrs_
  simp only [List.cons_append, List.nil_append] at hrs_
  subst hrs_
  repeat (first | (apply G.ex (hd := rfl); case h => (first | exact Ex.move rfl | exact Ex.extract rfl rfl | exact Ex.assign rfl | exact Ex.notB rfl)) | refine G.nil ?_ | refine GC.seq ?_ | refine GC.region ?_ | refine GC.skip ?_ | refine GE.then_normal ?_ | refine GC.cond_f rfl ?_)
  refine G.alloc rfl (fun wb => ?_)
  refine G.conv (fun w_ H_ => Holds.blkVec (m := 3) (s := 1) H_ rfl (by simp [Value.oneCell']) (by decide)) ?_
  rw [show ([.slice none 0 0, .slice none 0 0, .slice none 0 0] : List Value) = flat eS ([default, default, default] : Ws) from rfl]
  refine G.conv (fun w_ H_ => (((Holds.starNil H_).nilvec 3 1).starIn.nilvec 3 1).starIn.nilvec 3 1 |>.starIn) ?_
  rw [show (.own (Star [.vec 3 1 none 0 0 [], .vec 3 1 none 0 0 [], .vec 3 1 none 0 0 []]) : Res) = .own (Star (wq ([default, default, default] : Ws))) from rfl]
  have hw3 : Wf (fresh Q) := fresh_wf (by omega) (fun q hq => by have := hQ q hq; omega)
  have hJ0 : Jw [default, default, default] (fresh Q) := ⟨rfl, fun k hk => by
    rw [(fresh_at Q k).1]
    match k, hk with
    | 0, _ => exact ⟨rfl, rfl⟩
    | 1, _ => exact ⟨rfl, rfl⟩
    | 2, _ => exact ⟨rfl, rfl⟩⟩
  repeat (first | (apply G.ex (hd := rfl); case h => (first | exact Ex.assign rfl)) | refine G.nil ?_ | refine GC.seq ?_ | refine GC.region ?_ | refine GC.block ?_ | refine GE.then_normal ?_)
  refine GC.loop (ι := Nat × Ws × St) (fun x => x.1 ≤ N ∧ Jw x.2.1 x.2.2 ∧ Wf x.2.2 ∧ x.2.2.1.length = 3 ∧ Plays x.2.2 (L.drop x.1) (os.drop x.1) s) (fun x => N - x.1) (fun x => [(5, .slice fa N fc), (6, .slice oa N oc), (8, .pointer (some (badr wb 0))), (9, .int .i64 (tot x.2.1 : Int)), (10, .int .i64 (x.1 : Int))]) (fun x => [.vec 55 1 (some (badr wb 0)) 3 3 (flat eS x.2.1), .own (Star (wq x.2.1)), .vec 59 3 oa N oc (flat eO os), .vec 57 2 fa N fc (flat eFd L)]) (0, [default, default, default], fresh Q) ⟨Nat.zero_le _, hJ0, hw3, by simp [fresh, hQl], by simpa using hp⟩ (by simp only [fits]; repeat (first | exact trivial | refine And.intro rfl ?_)) (by repeat (first | exact Takes.nil | apply Takes.dup rfl | apply Takes.cons | exact Take1.here | apply Take1.there)) ?_
  rintro ⟨i, W, st⟩ ⟨hi_, hJ_, hw_, hl_, hp_⟩ fr_ rs_ hfr_ hrs_
  simp only [List.cons_append, List.nil_append] at hfr_ hrs_
  subst hfr_ hrs_
  obtain ⟨hi, hJ, hw, hl, hpl⟩ : i ≤ N ∧ Jw W st ∧ Wf st ∧ st.1.length = 3 ∧ Plays st (L.drop i) (os.drop i) s := ⟨hi_, hJ_, hw_, hl_, hp_⟩
  clear hi_ hJ_ hw_ hl_ hp_
  have hWl := hJ.1
  have ht40 : tot W ≤ 120 := by
    rw [tot3 W hWl, (hJ.2 0 (by decide)).2, (hJ.2 1 (by decide)).2, (hJ.2 2 (by decide)).2]
    have := hJ.wf40 hw hl (k := 0) (by decide); have := hJ.wf40 hw hl (k := 1) (by decide); have := hJ.wf40 hw hl (k := 2) (by decide); omega
  repeat (first | (apply G.ex (hd := rfl); case h => (first | exact Ex.move rfl | exact Ex.lss rfl rfl | exact Ex.lenSl rfl)) | refine G.nil ?_ | refine GC.seq ?_ | refine GC.region ?_ | refine GE.then_normal ?_)
  refine GC.cond_dec rfl (fun hlt => ?_) (fun hlt => ?_)
  · have hlt : i < N := by omega
    obtain ⟨hio, s1, hst, hp1⟩ := hpl.next (by omega)
    have hFo := hLo (L.getD i default) (by rw [List.getD_eq_getElem?_getD, List.getElem?_eq_getElem (by omega)]; exact List.getElem_mem _)
    obtain ⟨hw1', hl1'⟩ := step_wf hst hw (by omega) (by omega)
    generalize hF : L.getD i default = F at hst hFo
    generalize hO : os.getD i default = O at hst
    cases hst with
    | comes j z hz =>
      have F1 : (L.getD i default).1 = j := by rw [hF]
      have F2 : (L.getD i default).2 = z := by rw [hF]
      have O1 : (os.getD i default).1 = (comes st j z).2 := by rw [hO]
      have hj : j < 3 := hFo.1
      have hz2 : z ≤ 150 := hFo.2.2
      clear hF hO
      obtain rfl := F1
      obtain rfl := F2
      by_cases h40 : (W.getD (L.getD i default).1 default).n = 40
      · obtain ⟨c9, cs⟩ := hJ.full hj (z := (L.getD i default).2) h40
        rw [c9] at O1
        rw [cs] at hw1' hl1' hp1
        repeat (first | (apply G.ex (hd := rfl); case h => (first | exact Ex.move rfl | exact Ex.fieldE rfl | exact Ex.add rfl rfl (by omega) | exact Ex.gtr rfl rfl | exact Ex.eqI rfl rfl | exact Ex.neI rfl rfl | exact Ex.lenSl rfl | exact Ex.indexN rfl rfl (by first | omega | (simp; done) | (simp; omega)) | exact Ex.loadT0 rfl (by first | omega | (simp; done) | (simp; omega)) rfl | exact Ex.loadT rfl (by first | omega | (simp; done) | (simp; omega)) rfl | exact Ex.assign rfl | exact Ex.pickF rfl (by first | assumption | omega) rfl | exact Ex.indexArr rfl rfl (by first | omega | (simp; done) | (simp; omega)))) | refine G.g_ff rfl rfl (by first | assumption | omega) ?_ | refine G.nil ?_ | refine GC.seq ?_ | refine GC.region ?_ | refine GC.block ?_ | refine GC.skip ?_ | refine GC.exit ?_ | refine GE.then_normal ?_ | refine GE.then_exit ?_ | refine GE.block_hit ?_ | refine GC.cond_yes rfl (by first | assumption | omega) ?_ | refine GC.cond_no rfl (by first | assumption | omega) ?_)
        refine GE.loop (i + 1, W, st) ⟨by simp only; omega, hJ, hw, hl, hp1⟩ (by simp only; omega) (by simp only [fits]; repeat (first | exact trivial | refine And.intro rfl ?_)) (by repeat (first | exact Takes.nil | apply Takes.dup rfl | apply Takes.cons | exact Take1.here | apply Take1.there)) (by repeat (first | exact Subs.refl | refine Subs.skip ?_))
      · have c0 := (hJ.comes hl hj (z := (L.getD i default).2) h40 none 0).1
        rw [c0] at O1
        have hn40 := hJ.wf40 hw hl hj
        have hcat : flat (eI .i64) (W.getD (L.getD i default).1 default).l ++ flat (eI .i64) [(L.getD i default).2] = flat (eI .i64) ((W.getD (L.getD i default).1 default).l ++ [(L.getD i default).2]) := (flat_append ..).symm
        repeat (first | (apply G.ex (hd := rfl); case h => (first | exact Ex.move rfl | exact Ex.fieldE rfl | exact Ex.gtr rfl rfl | exact Ex.eqI rfl rfl | exact Ex.indexN rfl rfl (by first | omega | (simp; done) | (simp; omega)) | exact Ex.loadT0 rfl (by first | omega | (simp; done) | (simp; omega)) rfl | exact Ex.loadT rfl (by first | omega | (simp; done) | (simp; omega)) rfl)) | refine G.nil ?_ | refine GC.seq ?_ | refine GC.region ?_ | refine GC.block ?_ | refine GC.skip ?_ | refine GE.then_normal ?_ | refine GC.cond_yes rfl (by first | assumption | omega) ?_)
        refine GC.conv (fun w_ H_ => Holds.starAt (i := (L.getD i default).1) (by simpa [wq, hWl] using hj) (H_.take (need := [.own (Star (wq W))]) (by repeat (first | exact Takes.nil | apply Takes.dup rfl | apply Takes.cons | exact Take1.here | apply Take1.there)))) ?_
        try simp only [List.append_eq, List.nil_append, List.cons_append]
        rw [wq_at W (L.getD i default).1 (by omega)]
        unfold wv
        refine GC.drawA [20] [.vec 55 1 (some (badr wb 0)) 3 3 (flat eS W), .vec 57 2 fa N fc (flat eFd L)] (by repeat (first | exact Takes.nil | apply Takes.dup rfl | apply Takes.cons | exact Take1.here | apply Take1.there)) (by kernel_rfl) ?_
        first | (apply GA.take [] (hD := .inl rfl) (hsub := ⟨_, Takes.nil⟩) (i := 0) (hi := rfl) (hs := by kernel_rfl) (hfr := by kernel_rfl) (hr := by kernel_rfl) (hQ := (by repeat (first | exact NoPanic.fpost | apply NoPanic.then_ | apply NoPanic.block))) (hd := rfl); case hx => (first | exact Ex.move rfl))
        first | (apply GA.take [] (hD := .inl rfl) (hsub := ⟨_, Takes.nil⟩) (i := 1) (hi := rfl) (hs := by kernel_rfl) (hfr := by kernel_rfl) (hr := by kernel_rfl) (hQ := (by repeat (first | exact NoPanic.fpost | apply NoPanic.then_ | apply NoPanic.block))) (hd := rfl); case hx => (first | exact Ex.move rfl))
        first | (apply GA.take _ (hD := .inr ⟨rfl, by kernel_rfl⟩) (hsub := ⟨_, (by repeat (first | exact Takes.nil | apply Takes.dup rfl | apply Takes.cons | exact Take1.here | apply Take1.there))⟩) (i := 2) (hi := rfl) (hs := by kernel_rfl) (hfr := by kernel_rfl) (hr := by kernel_rfl) (hQ := (by repeat (first | exact NoPanic.fpost | apply NoPanic.then_ | apply NoPanic.block))) (hd := rfl); case hx => (first | exact Ex.indexN rfl rfl (by first | omega | (simp; done) | (simp; omega))))
        first | (apply GA.take [] (hD := .inl rfl) (hsub := ⟨_, Takes.nil⟩) (i := 3) (hi := rfl) (hs := by kernel_rfl) (hfr := by kernel_rfl) (hr := by kernel_rfl) (hQ := (by repeat (first | exact NoPanic.fpost | apply NoPanic.then_ | apply NoPanic.block))) (hd := rfl); case hx => (first | exact Ex.fieldE rfl))
        first | (apply GA.take _ (hD := .inr ⟨rfl, by kernel_rfl⟩) (hsub := ⟨_, (by repeat (first | exact Takes.nil | apply Takes.dup rfl | apply Takes.cons | exact Take1.here | apply Take1.there))⟩) (i := 4) (hi := rfl) (hs := by kernel_rfl) (hfr := by kernel_rfl) (hr := by kernel_rfl) (hQ := (by repeat (first | exact NoPanic.fpost | apply NoPanic.then_ | apply NoPanic.block))) (hd := rfl); case hx => (first | exact Ex.loadT0 rfl (by first | omega | (simp; done) | (simp; omega)) rfl))
        first | (apply GA.take [] (hD := .inl rfl) (hsub := ⟨_, Takes.nil⟩) (i := 5) (hi := rfl) (hs := by kernel_rfl) (hfr := by kernel_rfl) (hr := by kernel_rfl) (hQ := (by repeat (first | exact NoPanic.fpost | apply NoPanic.then_ | apply NoPanic.block))) (hd := rfl); case hx => (first | exact Ex.move rfl))
        first | (apply GA.take [] (hD := .inl rfl) (hsub := ⟨_, Takes.nil⟩) (i := 6) (hi := rfl) (hs := by kernel_rfl) (hfr := by kernel_rfl) (hr := by kernel_rfl) (hQ := (by repeat (first | exact NoPanic.fpost | apply NoPanic.then_ | apply NoPanic.block))) (hd := rfl); case hx => (first | exact Ex.move rfl))
        first | (apply GA.take _ (hD := .inr ⟨rfl, by kernel_rfl⟩) (hsub := ⟨_, (by repeat (first | exact Takes.nil | apply Takes.dup rfl | apply Takes.cons | exact Take1.here | apply Take1.there))⟩) (i := 7) (hi := rfl) (hs := by kernel_rfl) (hfr := by kernel_rfl) (hr := by kernel_rfl) (hQ := (by repeat (first | exact NoPanic.fpost | apply NoPanic.then_ | apply NoPanic.block))) (hd := rfl); case hx => (first | exact Ex.indexN rfl rfl (by first | omega | (simp; done) | (simp; omega))))
        first | (apply GA.take [] (hD := .inl rfl) (hsub := ⟨_, Takes.nil⟩) (i := 8) (hi := rfl) (hs := by kernel_rfl) (hfr := by kernel_rfl) (hr := by kernel_rfl) (hQ := (by repeat (first | exact NoPanic.fpost | apply NoPanic.then_ | apply NoPanic.block))) (hd := rfl); case hx => (first | exact Ex.fieldE rfl))
        first | (apply GA.take _ (hD := .inr ⟨rfl, by kernel_rfl⟩) (hsub := ⟨_, (by repeat (first | exact Takes.nil | apply Takes.dup rfl | apply Takes.cons | exact Take1.here | apply Take1.there))⟩) (i := 9) (hi := rfl) (hs := by kernel_rfl) (hfr := by kernel_rfl) (hr := by kernel_rfl) (hQ := (by repeat (first | exact NoPanic.fpost | apply NoPanic.then_ | apply NoPanic.block))) (hd := rfl); case hx => (first | exact Ex.loadT0 rfl (by first | omega | (simp; done) | (simp; omega)) rfl))
        first | (apply GA.take [] (hD := .inl rfl) (hsub := ⟨_, Takes.nil⟩) (i := 10) (hi := rfl) (hs := by kernel_rfl) (hfr := by kernel_rfl) (hr := by kernel_rfl) (hQ := (by repeat (first | exact NoPanic.fpost | apply NoPanic.then_ | apply NoPanic.block))) (hd := rfl); case hx => (first | exact Ex.indexArr rfl rfl (by first | omega | (simp; done) | (simp; omega))))
        first | (apply GA.take _ (hD := .inr ⟨rfl, by kernel_rfl⟩) (hsub := ⟨_, (by repeat (first | exact Takes.nil | apply Takes.dup rfl | apply Takes.cons | exact Take1.here | apply Take1.there))⟩) (i := 11) (hi := rfl) (hs := by kernel_rfl) (hfr := by kernel_rfl) (hr := by kernel_rfl) (hQ := (by repeat (first | exact NoPanic.fpost | apply NoPanic.then_ | apply NoPanic.block))) (hd := rfl); case hx => (first | exact Ex.loadT0 rfl (by first | omega | (simp; done) | (simp; omega)) rfl))
        first | (apply GA.take [] (hD := .inl rfl) (hsub := ⟨_, Takes.nil⟩) (i := 12) (hi := rfl) (hs := by kernel_rfl) (hfr := by kernel_rfl) (hr := by kernel_rfl) (hQ := (by repeat (first | exact NoPanic.fpost | apply NoPanic.then_ | apply NoPanic.block))) (hd := rfl); case hx => (first | exact Ex.move rfl))
        first | (apply GA.take [] (hD := .inl rfl) (hsub := ⟨_, Takes.nil⟩) (i := 13) (hi := rfl) (hs := by kernel_rfl) (hfr := by kernel_rfl) (hr := by kernel_rfl) (hQ := (by repeat (first | exact NoPanic.fpost | apply NoPanic.then_ | apply NoPanic.block))) (hd := rfl); case hx => (first | exact Ex.move rfl))
        first | (apply GA.take _ (hD := .inr ⟨rfl, by kernel_rfl⟩) (hsub := ⟨_, (by repeat (first | exact Takes.nil | apply Takes.dup rfl | apply Takes.cons | exact Take1.here | apply Take1.there))⟩) (i := 14) (hi := rfl) (hs := by kernel_rfl) (hfr := by kernel_rfl) (hr := by kernel_rfl) (hQ := (by repeat (first | exact NoPanic.fpost | apply NoPanic.then_ | apply NoPanic.block))) (hd := rfl); case hx => (first | exact Ex.indexN rfl rfl (by first | omega | (simp; done) | (simp; omega))))
        first | (apply GA.take [] (hD := .inl rfl) (hsub := ⟨_, Takes.nil⟩) (i := 15) (hi := rfl) (hs := by kernel_rfl) (hfr := by kernel_rfl) (hr := by kernel_rfl) (hQ := (by repeat (first | exact NoPanic.fpost | apply NoPanic.then_ | apply NoPanic.block))) (hd := rfl); case hx => (first | exact Ex.fieldE rfl))
        first | (apply GA.take _ (hD := .inr ⟨rfl, by kernel_rfl⟩) (hsub := ⟨_, (by repeat (first | exact Takes.nil | apply Takes.dup rfl | apply Takes.cons | exact Take1.here | apply Take1.there))⟩) (i := 16) (hi := rfl) (hs := by kernel_rfl) (hfr := by kernel_rfl) (hr := by kernel_rfl) (hQ := (by repeat (first | exact NoPanic.fpost | apply NoPanic.then_ | apply NoPanic.block))) (hd := rfl); case hx => (first | exact Ex.loadT rfl (by first | omega | (simp; done) | (simp; omega)) rfl))
        refine GA.one (i := 17) (by kernel_rfl) rfl ?_
        refine G.lit rfl (by rfl) (by rfl) (by rfl) (by rfl) (by rfl) (by rfl) rfl (fun y => ?_)
        try refine G.nil ?_
        refine GA.back (by first | exact .inl (by decide) | exact .inr ⟨_, (by repeat (first | exact Takes.nil | apply Takes.dup rfl | apply Takes.cons | exact Take1.here | apply Take1.there))⟩) ?_
        refine GA.one (i := 18) (by kernel_rfl) rfl ?_
        refine G.app rfl rfl (by rfl) (by omega) rfl (hcat) (fun o2 c2 rs_ hrs_ => ?_)
        try simp only at hrs_
        subst hrs_
        try refine G.nil ?_
        refine GA.back (by first | exact .inl (by decide) | exact .inr ⟨_, (by repeat (first | exact Takes.nil | apply Takes.dup rfl | apply Takes.cons | exact Take1.here | apply Take1.there))⟩) ?_
        first | (apply GA.take [] (hD := .inl rfl) (hsub := ⟨_, Takes.nil⟩) (i := 19) (hi := rfl) (hs := by kernel_rfl) (hfr := by kernel_rfl) (hr := by kernel_rfl) (hQ := (by repeat (first | exact NoPanic.fpost | apply NoPanic.then_ | apply NoPanic.block))) (hd := rfl); case hx => (first | exact Ex.indexArr rfl rfl (by first | omega | (simp; done) | (simp; omega))))
        refine GA.one (i := 20) (by kernel_rfl) rfl ?_
        first | refine G.storeT0 rfl rfl rfl rfl (by first | omega | (simp; omega)) rfl ((⟨o2, (W.getD (L.getD i default).1 default).n + 1, c2, (W.getD (L.getD i default).1 default).l ++ [(L.getD i default).2]⟩ : SlD Int)) (rfl) (fun rs_ hrs_ => ?_) | refine G.storeT rfl rfl rfl rfl (by first | omega | (simp; omega)) rfl ((⟨o2, (W.getD (L.getD i default).1 default).n + 1, c2, (W.getD (L.getD i default).1 default).l ++ [(L.getD i default).2]⟩ : SlD Int)) (rfl) (fun rs_ hrs_ => ?_) | refine G.storeTA rfl rfl (by first | omega | (simp; omega)) rfl ((⟨o2, (W.getD (L.getD i default).1 default).n + 1, c2, (W.getD (L.getD i default).1 default).l ++ [(L.getD i default).2]⟩ : SlD Int)) (rfl) (fun rs_ hrs_ => ?_)
        try simp only at hrs_
        subst hrs_
        try refine G.nil ?_
        refine GA.back (by first | exact .inl (by decide) | exact .inr ⟨_, (by repeat (first | exact Takes.nil | apply Takes.dup rfl | apply Takes.cons | exact Take1.here | apply Take1.there))⟩) ?_
        refine GA.done (by kernel_rfl) ?_
        refine GE.conv (fun w_ H_ => Holds.starBack (by simpa [wq, hWl] using hj) (H_.take (need := [.vec 3 1 o2 ((W.getD (L.getD i default).1 default).n + 1) c2 (flat (eI .i64) ((W.getD (L.getD i default).1 default).l ++ [(L.getD i default).2])), .own (Star ((wq W).eraseIdx (L.getD i default).1))]) (by repeat (first | exact Takes.nil | apply Takes.dup rfl | apply Takes.cons | exact Take1.here | apply Take1.there)))) ?_
        try simp only [List.append_eq, List.nil_append, List.cons_append]
        rw [show (wq W).set (L.getD i default).1 (.vec 3 1 o2 ((W.getD (L.getD i default).1 default).n + 1) c2 (flat (eI .i64) ((W.getD (L.getD i default).1 default).l ++ [(L.getD i default).2]))) = wq (W.set (L.getD i default).1 (⟨o2, (W.getD (L.getD i default).1 default).n + 1, c2, (W.getD (L.getD i default).1 default).l ++ [(L.getD i default).2]⟩ : SlD Int)) from wq_set W (L.getD i default).1 (⟨o2, (W.getD (L.getD i default).1 default).n + 1, c2, (W.getD (L.getD i default).1 default).l ++ [(L.getD i default).2]⟩ : SlD Int)]
        have hts := tot_set W (L.getD i default).1 (⟨o2, (W.getD (L.getD i default).1 default).n + 1, c2, (W.getD (L.getD i default).1 default).l ++ [(L.getD i default).2]⟩ : SlD Int) (by omega)
        simp only [List.length_append, List.length_cons, List.length_nil] at hts
        have htt : (tot W : Int) + 1 = (tot (W.set (L.getD i default).1 (⟨o2, (W.getD (L.getD i default).1 default).n + 1, c2, (W.getD (L.getD i default).1 default).l ++ [(L.getD i default).2]⟩ : SlD Int)) : Int) := by omega
        repeat (first | (apply G.ex (hd := rfl); case h => (first | exact Ex.move rfl | exact Ex.add rfl rfl (by omega) | exact Ex.assign rfl)) | refine G.nil ?_ | refine GC.region ?_ | refine GC.exit ?_ | refine GE.then_normal ?_ | refine GE.then_exit ?_ | refine GE.block_hit ?_)
        rw [htt]
        repeat (first | fail)
        refine GE.loop (i + 1, W.set (L.getD i default).1 (⟨o2, (W.getD (L.getD i default).1 default).n + 1, c2, (W.getD (L.getD i default).1 default).l ++ [(L.getD i default).2]⟩ : SlD Int), (comes st (L.getD i default).1 (L.getD i default).2).1) ⟨by simp only; omega, (hJ.comes hl hj (z := (L.getD i default).2) h40 o2 c2).2, hw1', by rw [hl1']; exact hl, hp1⟩ (by simp only; omega) (by simp only [fits]; repeat (first | exact trivial | refine And.intro rfl ?_)) (by repeat (first | exact Takes.nil | apply Takes.dup rfl | apply Takes.cons | exact Take1.here | apply Take1.there)) (by repeat (first | exact Subs.refl | refine Subs.skip ?_))
    | none j z hz hT =>
      have F2 : (L.getD i default).2 = 0 := by rw [hF]; exact hz
      have O1 : (os.getD i default).1 = 7 := by rw [hO]
      have ht0 := hJ.none hw hl hT
      have hb : ¬ ¬ (decide ((os.getD i default).1 = 7) = decide ((tot W : Int) = 0)) := by rw [O1, ht0]; decide
      repeat (first | (apply G.ex (hd := rfl); case h => (first | exact Ex.move rfl | exact Ex.fieldE rfl | exact Ex.add rfl rfl (by omega) | exact Ex.gtr rfl rfl | exact Ex.eqI rfl rfl | exact Ex.neI rfl rfl | exact Ex.indexN rfl rfl (by first | omega | (simp; done) | (simp; omega)) | exact Ex.loadT0 rfl (by first | omega | (simp; done) | (simp; omega)) rfl | exact Ex.loadT rfl (by first | omega | (simp; done) | (simp; omega)) rfl | exact Ex.assign rfl | exact Ex.neB rfl rfl)) | refine G.nil ?_ | refine GC.seq ?_ | refine GC.region ?_ | refine GC.block ?_ | refine GC.skip ?_ | refine GC.exit ?_ | refine GE.then_normal ?_ | refine GE.then_exit ?_ | refine GE.block_hit ?_ | refine GC.cond_yes rfl (by first | assumption | omega) ?_ | refine GC.cond_no rfl (by first | assumption | omega) ?_)
      refine GE.loop (i + 1, W, st) ⟨by simp only; omega, hJ, hw, hl, hp1⟩ (by simp only; omega) (by simp only [fits]; repeat (first | exact trivial | refine And.intro rfl ?_)) (by repeat (first | exact Takes.nil | apply Takes.dup rfl | apply Takes.cons | exact Take1.here | apply Take1.there)) (by repeat (first | exact Subs.refl | refine Subs.skip ?_))
    | sends _ j z o hz hS =>
      have F2 : (L.getD i default).2 = 0 := by rw [hF]; exact hz
      have O1 : (os.getD i default).1 = 0 := by rw [hO]
      have O2 : (os.getD i default).2 = o := by rw [hO]
      clear hF hO
      obtain rfl := O2
      obtain ⟨ho, hn0, hg, htp, hJ'⟩ := hJ.sends hw hl hS
      have hb : ¬ ¬ (decide ((os.getD i default).1 = 7) = decide ((tot W : Int) = 0)) := by rw [O1, decide_eq_false (show ¬ (tot W : Int) = 0 by omega)]; decide
      have hjl := (hJ.2 _ ho).2
      have hl0 : 0 < (W.getD (os.getD i default).2.1 default).l.length := by omega
      have hn40 := hJ.wf40 hw hl ho
      have htl : flat (eI .i64) (W.getD (os.getD i default).2.1 default).l.tail = (((flat (eI .i64) (W.getD (os.getD i default).2.1 default).l).drop (1 * 1)).take (((W.getD (os.getD i default).2.1 default).n - 1) * 1)) := by
        rw [flat_drop (s := 1) inferInstance, flat_take (s := 1) inferInstance, List.drop_one, List.take_of_length_le (by rw [List.length_tail]; omega)]
      repeat (first | (apply G.ex (hd := rfl); case h => (first | exact Ex.move rfl | exact Ex.fieldE rfl | exact Ex.gtr rfl rfl | exact Ex.eqI rfl rfl | exact Ex.neI rfl rfl | exact Ex.indexN rfl rfl (by first | omega | (simp; done) | (simp; omega)) | exact Ex.loadT0 rfl (by first | omega | (simp; done) | (simp; omega)) rfl | exact Ex.loadT rfl (by first | omega | (simp; done) | (simp; omega)) rfl | exact Ex.assign rfl | exact Ex.neB rfl rfl)) | refine G.nil ?_ | refine GC.seq ?_ | refine GC.region ?_ | refine GC.block ?_ | refine GC.skip ?_ | refine GE.then_normal ?_ | refine GC.cond_no rfl (by first | assumption | omega) ?_)
      refine GC.conv (fun w_ H_ => Holds.starAt (i := (os.getD i default).2.1) (by simpa [wq, hWl] using ho) (H_.take (need := [.own (Star (wq W))]) (by repeat (first | exact Takes.nil | apply Takes.dup rfl | apply Takes.cons | exact Take1.here | apply Take1.there)))) ?_
      try simp only [List.append_eq, List.nil_append, List.cons_append]
      rw [wq_at W (os.getD i default).2.1 (by omega)]
      unfold wv
      have hg2 : ¬ ¬ (W.getD (os.getD i default).2.1 default).l.getD 0 default = (os.getD i default).2.2 := fun k => k hg
      repeat (first | (apply G.ex (hd := rfl); case h => (first | exact Ex.move rfl | exact Ex.loadT0 rfl (by first | omega | (simp; done) | (simp; omega)) rfl | exact Ex.indexArr rfl rfl (by first | omega | (simp; done) | (simp; omega)))) | (apply Gq.ex (hd := rfl); case h => (first | exact Ex.move rfl | exact Ex.fieldE rfl | exact Ex.lss rfl rfl | exact Ex.gtr rfl rfl | exact Ex.eqI rfl rfl | exact Ex.neI rfl rfl | exact Ex.lenSl rfl | exact Ex.indexN rfl rfl (by first | omega | (simp; done) | (simp; omega)) | exact Ex.loadT0 rfl (by first | omega | (simp; done) | (simp; omega)) rfl | exact Ex.loadT rfl (by first | omega | (simp; done) | (simp; omega)) rfl | exact Ex.pickF rfl (by first | assumption | omega) rfl | exact Ex.indexArr rfl rfl (by first | omega | (simp; done) | (simp; omega)))) | refine Gq.g_ff rfl rfl (by first | assumption | omega) ?_ | refine Gq.nil ?_ | refine GC.seq ?_ | refine GC.region ?_ | refine GC.draw (by kernel_rfl) (by kernel_rfl) ?_ | refine GC.skip ?_ | refine GE.then_normal ?_ | refine GC.cond_no rfl (by first | assumption | omega) ?_)
      refine G.subV (l := 1) (r := (W.getD (os.getD i default).2.1 default).n) rfl (by first | exact .inl ⟨rfl, rfl⟩ | exact .inr ⟨_, _, rfl, ev_int rfl (by omega)⟩) (by first | exact .inl ⟨rfl, rfl⟩ | exact .inr ⟨_, _, rfl, ev_int rfl (by omega)⟩) (by omega) rfl (htl.symm) (fun o2 rs_ hrs_ => ?_)
      try simp only at hrs_
      subst hrs_
      repeat (first | (apply G.ex (hd := rfl); case h => (first | exact Ex.indexArr rfl rfl (by first | omega | (simp; done) | (simp; omega)))))
      first | refine G.storeT0 rfl rfl rfl rfl (by first | omega | (simp; omega)) rfl ((⟨o2, (W.getD (os.getD i default).2.1 default).n - 1, (W.getD (os.getD i default).2.1 default).c - 1, (W.getD (os.getD i default).2.1 default).l.tail⟩ : SlD Int)) (rfl) (fun rs_ hrs_ => ?_) | refine G.storeT rfl rfl rfl rfl (by first | omega | (simp; omega)) rfl ((⟨o2, (W.getD (os.getD i default).2.1 default).n - 1, (W.getD (os.getD i default).2.1 default).c - 1, (W.getD (os.getD i default).2.1 default).l.tail⟩ : SlD Int)) (rfl) (fun rs_ hrs_ => ?_) | refine G.storeTA rfl rfl (by first | omega | (simp; omega)) rfl ((⟨o2, (W.getD (os.getD i default).2.1 default).n - 1, (W.getD (os.getD i default).2.1 default).c - 1, (W.getD (os.getD i default).2.1 default).l.tail⟩ : SlD Int)) (rfl) (fun rs_ hrs_ => ?_)
      try simp only at hrs_
      subst hrs_
      repeat (first | (apply G.ex (hd := rfl); case h => (first | exact Ex.move rfl | exact Ex.add rfl rfl (by omega) | exact Ex.sub rfl rfl (by omega) | exact Ex.assign rfl)) | refine G.nil ?_ | refine GC.region ?_ | refine GE.then_normal ?_ | refine GE.block_normal ?_)
      refine GE.conv (fun w_ H_ => Holds.starBack (by simpa [wq, hWl] using ho) (H_.take (need := [.vec 3 1 o2 ((W.getD (os.getD i default).2.1 default).n - 1) ((W.getD (os.getD i default).2.1 default).c - 1) (flat (eI .i64) (W.getD (os.getD i default).2.1 default).l.tail), .own (Star ((wq W).eraseIdx (os.getD i default).2.1))]) (by repeat (first | exact Takes.nil | apply Takes.dup rfl | apply Takes.cons | exact Take1.here | apply Take1.there)))) ?_
      try simp only [List.append_eq, List.nil_append, List.cons_append]
      rw [show (wq W).set (os.getD i default).2.1 (.vec 3 1 o2 ((W.getD (os.getD i default).2.1 default).n - 1) ((W.getD (os.getD i default).2.1 default).c - 1) (flat (eI .i64) (W.getD (os.getD i default).2.1 default).l.tail)) = wq (W.set (os.getD i default).2.1 (⟨o2, (W.getD (os.getD i default).2.1 default).n - 1, (W.getD (os.getD i default).2.1 default).c - 1, (W.getD (os.getD i default).2.1 default).l.tail⟩ : SlD Int)) from wq_set W (os.getD i default).2.1 (⟨o2, (W.getD (os.getD i default).2.1 default).n - 1, (W.getD (os.getD i default).2.1 default).c - 1, (W.getD (os.getD i default).2.1 default).l.tail⟩ : SlD Int)]
      have hts := tot_set W (os.getD i default).2.1 (⟨o2, (W.getD (os.getD i default).2.1 default).n - 1, (W.getD (os.getD i default).2.1 default).c - 1, (W.getD (os.getD i default).2.1 default).l.tail⟩ : SlD Int) (by omega)
      simp only [List.length_tail] at hts
      have htt : (tot W : Int) - 1 = (tot (W.set (os.getD i default).2.1 (⟨o2, (W.getD (os.getD i default).2.1 default).n - 1, (W.getD (os.getD i default).2.1 default).c - 1, (W.getD (os.getD i default).2.1 default).l.tail⟩ : SlD Int)) : Int) := by omega
      rw [htt]
      refine GE.loop (i + 1, W.set (os.getD i default).2.1 (⟨o2, (W.getD (os.getD i default).2.1 default).n - 1, (W.getD (os.getD i default).2.1 default).c - 1, (W.getD (os.getD i default).2.1 default).l.tail⟩ : SlD Int), s1) ⟨by simp only; omega, hJ' _ _, hw1', by rw [hl1']; exact hl, hp1⟩ (by simp only; omega) (by simp only [fits]; repeat (first | exact trivial | refine And.intro rfl ?_)) (by repeat (first | exact Takes.nil | apply Takes.dup rfl | apply Takes.cons | exact Take1.here | apply Take1.there)) (by repeat (first | exact Subs.refl | refine Subs.skip ?_))
  · repeat (first | (apply G.ex (hd := rfl); case h => (first | exact Ex.assign rfl)) | refine G.nil ?_ | refine GC.seq ?_ | refine GC.region ?_ | refine GC.ret ?_ | refine GC.exit ?_ | refine GE.then_normal ?_ | refine GE.then_exit ?_ | refine GE.block_hit ?_)
    refine GE.ret (by first | exact .inl rfl | exact .inr rfl) (by first | exact res0 Try.results7 | exact res1 Try.results7 rfl | exact res2 Try.results7 rfl rfl | exact resR1 Try.results7 (by first | exact RV.tmp rfl | exact RV.cell rfl rfl | exact RV.cell1 rfl) | exact resR2 Try.results7 (by first | exact RV.tmp rfl | exact RV.cell rfl rfl | exact RV.cell1 rfl) (by first | exact RV.tmp rfl | exact RV.cell rfl rfl | exact RV.cell1 rfl) | exact resR3 Try.results7 (by first | exact RV.tmp rfl | exact RV.cell rfl rfl | exact RV.cell1 rfl) (by first | exact RV.tmp rfl | exact RV.cell rfl rfl | exact RV.cell1 rfl) (by first | exact RV.tmp rfl | exact RV.cell rfl rfl | exact RV.cell1 rfl)) ⟨rfl, rfl⟩ (by repeat (first | exact Takes.nil | apply Takes.dup rfl | apply Takes.cons | exact Take1.here | apply Take1.there)) (by repeat (first | exact Subs.refl | refine Subs.skip ?_))
end fair
end Go.Proofs.Ytcabcpealkbekaa
