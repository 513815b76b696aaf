/-
  CONTRACTS of wrapped and sameLists; the laws FrameBack and FrameLong, by the kit.
-/
import Derived.Test.YtcabcpealkbekaaFrame2
namespace Go.Proofs.Ytcabcpealkbekaa
open Go.RowKit
attribute [local irreducible] Ex G GC GE Gq FPost LPost
set_option linter.unusedVariables false
set_option linter.unusedSimpArgs false

namespace frame
set_option maxHeartbeats 4000000 in
theorem wrapped_sp (ao : Option Addr) (n c : Nat) (L : List (SlD UInt8)) (hl : L.length = n) (hn : n ≤ 9223372036854775807) (hL : ∀ x ∈ L, x.l.length = x.n ∧ x.n ≤ 9223372036854775807) (k : Nat) (hk : k ≤ 30) :
    Spec Try.prog 19 [.slice ao n c, .int .i64 (k : Int)] [.sl ao n c 1 (flat eS L), .per (Rd eB 1 L)]
      fun v give => ∃ (B : List (SlD UInt8)) (oa : Option Addr) (oc : Nat) (ba : Option Addr) (bc : Nat), v = .tuple #[.slice oa (wrap (dats B)).length oc, .slice ba B.length bc, .bool true] ∧ Fit 100 B ∧ B.length ≤ k ∧ give = [.sl ba B.length bc 1 (flat eS B), .per (Rd eB 1 B), .vec 5 1 oa (wrap (dats B)).length oc (flat eB (wrap (dats B)))] := by
  refine Spec.intro Try.func19 rfl Try.ntmps19 rfl fun w0 rest rs_ hrs_ => ?_
  simp only [List.cons_append, List.nil_append] at hrs_
  subst hrs_
  repeat (first | (apply G.ex (hd := rfl); case h => (first | exact Ex.assign rfl)) | refine G.nil ?_ | refine GC.seq ?_ | refine GC.region ?_ | refine GC.block ?_ | refine GE.then_normal ?_)
  first | refine G.nilvec 5 1 ?_ | refine GC.nilvec 5 1 ?_
  first | refine G.nilvec 35 1 ?_ | refine GC.nilvec 35 1 ?_
  refine GC.conv (fun w_ H_ => H_.rdNil eB 1) ?_
  refine GC.loop (ι := Nat × Option Addr × Nat × List (SlD UInt8) × Option Addr × Nat) (fun i => i.1 ≤ n ∧ i.1 ≤ k ∧ Fit 100 i.2.2.2.1 ∧ i.2.2.2.1.length = i.1) (fun i => k - i.1) (fun i => [(0, .slice ao n c), (1, .int .i64 (k : Int)), (7, .slice i.2.1 (wrap (dats i.2.2.2.1)).length i.2.2.1), (8, .slice i.2.2.2.2.1 i.2.2.2.1.length i.2.2.2.2.2), (9, .int .i64 (i.1 : Int))]) (fun i => [.vec 5 1 i.2.1 (wrap (dats i.2.2.2.1)).length i.2.2.1 (flat eB (wrap (dats i.2.2.2.1))), .vec 35 1 i.2.2.2.2.1 i.2.2.2.1.length i.2.2.2.2.2 (flat eS i.2.2.2.1), .per (Rd eB 1 i.2.2.2.1), .sl ao n c 1 (flat eS L), .per (Rd eB 1 L)]) (0, none, 0, [], none, 0) ⟨Nat.zero_le _, Nat.zero_le _, fun x hx => by simp at hx, rfl⟩ (by simp only [fits]; repeat (first | exact trivial | refine And.intro rfl ?_)) (by repeat (first | exact Takes.nil | apply Takes.dup rfl | apply Takes.cons | exact Take1.here | apply Take1.there)) ?_
  rintro ⟨i, oa, oc, B, ba, bc⟩ ⟨h1, h2, h3, h4⟩ fr_ rs_ hfr_ hrs_
  simp only [List.cons_append, List.nil_append] at hfr_ hrs_
  subst hfr_ hrs_
  simp only at h1 h2 h3 h4
  by_cases hlt : i < n ∧ i < k
  · obtain ⟨hlt1, hlt2⟩ := hlt
    obtain ⟨hx1, hx2⟩ := hL (L.getD i default) (by rw [List.getD_eq_getElem?_getD, List.getElem?_eq_getElem (by omega)]; exact List.getElem_mem _)
    have hwl := wrap_len (dats B) 100 (h3.dats (Nat.le_refl _))
    rw [show (dats B).length = i by rw [dats, List.length_map, h4]] at hwl
    have hwl2 : (wrap (dats B)).length ≤ 3120 := by omega
    clear hwl
    refine GC.conv (fun w_ H_ => H_.rdAt (l := L) (enc := eB) (s := 1) (by simp) i (by omega)) ?_
    repeat (first | (apply G.ex (hd := rfl); case h => (first | exact Ex.move rfl | exact Ex.lss rfl rfl | exact Ex.lenSl rfl | exact Ex.indexN rfl rfl (by first | omega | (simp; done) | (simp; omega)) | exact Ex.loadT0 rfl (by first | omega | (simp; done) | (simp; omega)) rfl | exact Ex.pickT rfl (by first | assumption | omega) rfl)) | refine G.g_tt rfl rfl (by first | assumption | omega) ?_ | refine G.nil ?_ | refine GC.seq ?_ | refine GC.region ?_ | refine GC.block ?_ | refine GC.skip ?_ | refine GE.then_normal ?_ | refine GC.cond_yes rfl (by first | assumption | omega) ?_)
    generalize L.getD i default = x at *
    first | refine G.call (caps := []) (octets_sp x.ao x.n x.c x.l hx1 hx2 100 (by omega)) rfl rfl rfl rfl (by repeat (first | exact Takes.nil | apply Takes.dup rfl | apply Takes.cons | exact Take1.here | apply Take1.there)) ?_ | refine G.callU (caps := []) (octets_sp x.ao x.n x.c x.l hx1 hx2 100 (by omega)) rfl rfl rfl (by repeat (first | exact Takes.nil | apply Takes.dup rfl | apply Takes.cons | exact Take1.here | apply Take1.there)) ?_
    rintro v_ give_ ⟨b1, c1, rfl, rfl⟩ rs_ hrs_
    simp only [List.cons_append, List.nil_append] at hrs_
    subst hrs_
    have hm : min x.n 100 ≤ 100 := Nat.min_le_right ..
    have hxl : (x.l.take 100).length = min x.n 100 := by rw [List.length_take]; omega
    generalize min x.n 100 = m at *
    generalize x.l.take 100 = b at *
    first | refine G.frz b1 ?_ | refine GC.frz b1 ?_ | refine GE.frz b1 ?_
    repeat (first | (apply G.ex (hd := rfl); case h => (first | exact Ex.move rfl | exact Ex.assign rfl)) | refine G.nil ?_ | refine GC.seq ?_ | refine GC.region ?_ | refine GE.then_normal ?_)
    first | refine G.call (caps := []) (wrap_sp b1 m c1 b hxl (by omega)) rfl rfl rfl rfl (by repeat (first | exact Takes.nil | apply Takes.dup rfl | apply Takes.cons | exact Take1.here | apply Take1.there)) ?_ | refine G.callU (caps := []) (wrap_sp b1 m c1 b hxl (by omega)) rfl rfl rfl (by repeat (first | exact Takes.nil | apply Takes.dup rfl | apply Takes.cons | exact Take1.here | apply Take1.there)) ?_
    rintro v_ give_ ⟨xa, xc, rfl, rfl⟩ rs_ hrs_
    simp only [List.cons_append, List.nil_append] at hrs_
    subst hrs_
    have hfl : (fr b).length = 4 + m := by rw [fr_len, hxl]
    repeat (first | (apply G.ex (hd := rfl); case h => (first | exact Ex.move rfl | exact Ex.add rfl rfl (by omega) | exact Ex.neI rfl rfl | exact Ex.lenSl rfl | exact Ex.extract rfl rfl | exact Ex.assign rfl | exact Ex.pickF rfl (by first | assumption | omega) rfl)) | refine G.g_ff rfl rfl (by first | assumption | omega) ?_ | refine G.nil ?_ | refine GC.seq ?_ | refine GC.region ?_ | refine GC.skip ?_ | refine GE.then_normal ?_ | refine GC.cond_no rfl (by first | assumption | omega) ?_)
    have hcat : flat eB (wrap (dats B)) ++ flat eB (fr b) = flat eB (wrap (dats (B ++ [⟨b1, m, c1, b⟩]))) := by rw [dats_snoc, wrap_snoc, flat_append]
    refine G.app rfl rfl (by rfl) (by omega) rfl (hcat) (fun o2 c2 rs_ hrs_ => ?_)
    try simp only at hrs_
    subst hrs_
    rw [show (wrap (dats B)).length + (fr b).length = (wrap (dats (B ++ [⟨b1, m, c1, b⟩]))).length by rw [dats_snoc, wrap_snoc, List.length_append]]
    refine G.conv (fun w_ H_ => Holds.rdSnoc (x := ⟨b1, m, c1, b⟩) (H_.take (need := [.sl b1 m c1 1 (flat eB b), .per (Rd eB 1 B)]) (by repeat (first | exact Takes.nil | apply Takes.dup rfl | apply Takes.cons | exact Take1.here | apply Take1.there)))) ?_
    try simp only [List.append_eq, List.nil_append, List.cons_append]
    repeat (first | (apply G.ex (hd := rfl); case h => (first | exact Ex.move rfl | exact Ex.assign rfl)) | refine G.nil ?_ | refine GC.region ?_ | refine GE.then_normal ?_)
    refine G.lit rfl (by rfl) (by rfl) (by rfl) (by rfl) (by rfl) (by rfl) rfl (fun y => ?_)
    have hcat2 : flat eS B ++ eS (⟨b1, m, c1, b⟩ : SlD UInt8) = flat eS (B ++ [⟨b1, m, c1, b⟩]) := flat_snoc ..
    refine G.app rfl rfl (by rfl) (by omega) rfl (hcat2) (fun b2 d2 rs_ hrs_ => ?_)
    try simp only at hrs_
    subst hrs_
    rw [show B.length + 1 = (B ++ [(⟨b1, m, c1, b⟩ : SlD UInt8)]).length by simp]
    refine G.drop ?_
    repeat (first | (apply G.ex (hd := rfl); case h => (first | exact Ex.move rfl | exact Ex.add rfl rfl (by omega) | exact Ex.assign rfl)) | refine G.nil ?_ | refine GC.region ?_ | refine GE.then_normal ?_ | refine GE.block_normal ?_)
    refine GE.loop (i + 1, o2, c2, B ++ [⟨b1, m, c1, b⟩], b2, d2) ⟨by simp only; omega, by simp only; omega, h3.snoc hxl (by simp only; omega), by simp [h4]⟩ (by simp only; omega) (by simp only [fits]; repeat (first | exact trivial | refine And.intro rfl ?_)) (by repeat (first | exact Takes.nil | apply Takes.dup rfl | apply Takes.cons | exact Take1.here | apply Take1.there)) (by repeat (first | exact Subs.refl | refine Subs.skip ?_))
  · have hend : ¬ i < n ∨ ¬ i < k := by omega
    have hBk : B.length ≤ k := by omega
    clear h1
    by_cases hlt1 : i < n
    case' pos => have hlt2 : ¬ i < k := fun k => hlt ⟨hlt1, k⟩
    all_goals
      clear hlt hend
      repeat (first | (apply G.ex (hd := rfl); case h => (first | exact Ex.move rfl | exact Ex.lss rfl rfl | exact Ex.lenSl rfl | exact Ex.assign rfl | exact Ex.pickT rfl (by first | assumption | omega) rfl | exact Ex.pickF rfl (by first | assumption | omega) rfl)) | refine G.g_tt rfl rfl (by first | assumption | omega) ?_ | refine G.g_tf rfl rfl (by first | assumption | omega) rfl ?_ | refine G.nil ?_ | refine GC.seq ?_ | refine GC.region ?_ | refine GC.ret ?_ | refine GC.exit ?_ | refine GE.then_normal ?_ | refine GE.then_exit ?_ | refine GE.block_hit ?_ | refine GC.cond_no rfl (by first | assumption | omega) ?_ | refine GC.cond_f rfl ?_)
      first | refine G.frz ba ?_ | refine GC.frz ba ?_ | refine GE.frz ba ?_
      refine GE.ret (by first | exact .inl rfl | exact .inr rfl) (by first | exact res0 Try.results19 | exact res1 Try.results19 rfl | exact res2 Try.results19 rfl rfl | exact resR1 Try.results19 (by first | exact RV.tmp rfl | exact RV.cell rfl rfl | exact RV.cell1 rfl) | exact resR2 Try.results19 (by first | exact RV.tmp rfl | exact RV.cell rfl rfl | exact RV.cell1 rfl) (by first | exact RV.tmp rfl | exact RV.cell rfl rfl | exact RV.cell1 rfl) | exact resR3 Try.results19 (by first | exact RV.tmp rfl | exact RV.cell rfl rfl | exact RV.cell1 rfl) (by first | exact RV.tmp rfl | exact RV.cell rfl rfl | exact RV.cell1 rfl) (by first | exact RV.tmp rfl | exact RV.cell rfl rfl | exact RV.cell1 rfl)) ⟨B, oa, oc, ba, bc, rfl, h3, hBk, rfl⟩ (by repeat (first | exact Takes.nil | apply Takes.dup rfl | apply Takes.cons | exact Take1.here | apply Take1.there)) (by repeat (first | exact Subs.refl | refine Subs.skip ?_))
theorem dats_take (A : List (SlD UInt8)) (k : Nat) (h : k < A.length) : dats (A.take (k + 1)) = dats (A.take k) ++ [(A.getD k default).l] := by
  rw [List.take_succ_eq_append_getElem h, dats_snoc, List.getD_eq_getElem?_getD, List.getElem?_eq_getElem h]; rfl
theorem dats_at (A : List (SlD UInt8)) (k : Nat) (h : k < A.length) : (dats A)[k]? = some (A.getD k default).l := by
  rw [dats, List.getElem?_map, List.getD_eq_getElem?_getD, List.getElem?_eq_getElem h]; rfl
set_option maxHeartbeats 4000000 in
theorem sameLists_sp (ao : Option Addr) (n c : Nat) (A : List (SlD UInt8)) (hA : A.length = n) (bo : Option Addr) (m d : Nat) (B : List (SlD UInt8)) (hB : B.length = m) (hn : n ≤ 100000) (hm : m ≤ 100000) (fA : Fit 100000 A) (fB : Fit 100000 B) :
    Spec Try.prog 23 [.slice ao n c, .slice bo m d] [.sl ao n c 1 (flat eS A), .per (Rd eB 1 A), .sl bo m d 1 (flat eS B), .per (Rd eB 1 B)] fun v give => v = .bool (decide (dats A = dats B)) ∧ give = [] := by
  refine Spec.intro Try.func23 rfl Try.ntmps23 rfl fun w0 rest rs_ hrs_ => ?_
  simp only [List.cons_append, List.nil_append] at hrs_
  subst hrs_
  repeat (first | (apply G.ex (hd := rfl); case h => (first | exact Ex.move rfl | exact Ex.neI rfl rfl | exact Ex.lenSl rfl | exact Ex.assign rfl)) | refine G.nil ?_ | refine GC.seq ?_ | refine GC.region ?_ | refine GE.then_normal ?_)
  refine GC.cond_dec rfl (fun h => ?_) (fun h => ?_)
  · repeat (first | (apply G.ex (hd := rfl); case h => (first | exact Ex.assign rfl)) | refine G.nil ?_ | refine GC.seq ?_ | refine GC.region ?_ | refine GC.ret ?_ | refine GE.then_normal ?_ | refine GE.then_ret ?_)
    refine GE.ret (by first | exact .inl rfl | exact .inr rfl) (by first | exact res0 Try.results23 | exact res1 Try.results23 rfl | exact res2 Try.results23 rfl rfl | exact resR1 Try.results23 (by first | exact RV.tmp rfl | exact RV.cell rfl rfl | exact RV.cell1 rfl) | exact resR2 Try.results23 (by first | exact RV.tmp rfl | exact RV.cell rfl rfl | exact RV.cell1 rfl) (by first | exact RV.tmp rfl | exact RV.cell rfl rfl | exact RV.cell1 rfl) | exact resR3 Try.results23 (by first | exact RV.tmp rfl | exact RV.cell rfl rfl | exact RV.cell1 rfl) (by first | exact RV.tmp rfl | exact RV.cell rfl rfl | exact RV.cell1 rfl) (by first | exact RV.tmp rfl | exact RV.cell rfl rfl | exact RV.cell1 rfl)) ⟨congrArg Value.bool (decide_eq_false (fun e => h (by have := congrArg List.length e; simp only [dats, List.length_map] at this; omega))).symm, rfl⟩ (by repeat (first | exact Takes.nil | apply Takes.dup rfl | apply Takes.cons | exact Take1.here | apply Take1.there)) (by repeat (first | exact Subs.refl | refine Subs.skip ?_))
  · have hnm : n = m := by omega
    subst hnm
    repeat (first | (apply G.ex (hd := rfl); case h => (first | exact Ex.assign rfl)) | refine G.nil ?_ | refine GC.seq ?_ | refine GC.region ?_ | refine GC.block ?_ | refine GC.skip ?_ | refine GE.then_normal ?_)
    refine GC.loop (ι := Nat) (fun k => k ≤ n ∧ dats (A.take k) = dats (B.take k)) (fun k => n - k) (fun k => [(0, .slice ao n c), (1, .slice bo n d), (5, .int .i64 (k : Int))]) (fun k => [.sl ao n c 1 (flat eS A), .per (Rd eB 1 A), .sl bo n d 1 (flat eS B), .per (Rd eB 1 B)]) 0 ⟨Nat.zero_le _, rfl⟩ (by simp only [fits]; repeat (first | exact trivial | refine And.intro rfl ?_)) (by repeat (first | exact Takes.nil | apply Takes.dup rfl | apply Takes.cons | exact Take1.here | apply Take1.there)) ?_
    rintro k ⟨hk, he⟩ fr_ rs_ hfr_ hrs_
    simp only [List.cons_append, List.nil_append] at hfr_ hrs_
    subst hfr_ hrs_
    repeat (first | (apply G.ex (hd := rfl); case h => (first | exact Ex.move rfl | exact Ex.lss rfl rfl | exact Ex.lenSl rfl)) | refine G.nil ?_ | refine GC.seq ?_ | refine GC.region ?_ | refine GE.then_normal ?_)
    refine GC.cond_dec rfl (fun hlt => ?_) (fun hlt => ?_)
    · have hlt : k < n := by omega
      obtain ⟨hx1, hx2⟩ := fA (A.getD k default) (by rw [List.getD_eq_getElem?_getD, List.getElem?_eq_getElem (by omega)]; exact List.getElem_mem _)
      obtain ⟨hy1, hy2⟩ := fB (B.getD k default) (by rw [List.getD_eq_getElem?_getD, List.getElem?_eq_getElem (by omega)]; exact List.getElem_mem _)
      refine GC.conv (fun w_ H_ => H_.rdAt (l := A) (enc := eB) (s := 1) (by simp) k (by omega)) ?_
      refine GC.conv (fun w_ H_ => H_.rdAt (l := B) (enc := eB) (s := 1) (by simp) k (by omega)) ?_
      have hdA := dats_at A k (by omega)
      have hdB := dats_at B k (by omega)
      have htA := dats_take A k (by omega)
      have htB := dats_take B k (by omega)
      repeat (first | refine GC.seq ?_ | refine GC.block ?_ | refine GC.skip ?_ | refine GE.then_normal ?_)
      refine GC.drawA [] [.sl ao n c 1 (flat eS A), .sl bo n d 1 (flat eS B)] (by repeat (first | exact Takes.nil | apply Takes.dup rfl | apply Takes.cons | exact Take1.here | apply Take1.there)) (by kernel_rfl) ?_
      first | (apply GA.take [] (hD := .inl rfl) (hsub := ⟨_, Takes.nil⟩) (i := 0) (hi := rfl) (hs := by kernel_rfl) (hfr := by kernel_rfl) (hr := by kernel_rfl) (hQ := (by repeat (first | exact NoPanic.fpost | apply NoPanic.then_ | apply NoPanic.block))) (hd := rfl); case hx => (first | exact Ex.move rfl))
      first | (apply GA.take [] (hD := .inl rfl) (hsub := ⟨_, Takes.nil⟩) (i := 1) (hi := rfl) (hs := by kernel_rfl) (hfr := by kernel_rfl) (hr := by kernel_rfl) (hQ := (by repeat (first | exact NoPanic.fpost | apply NoPanic.then_ | apply NoPanic.block))) (hd := rfl); case hx => (first | exact Ex.move rfl))
      first | (apply GA.take _ (hD := .inr ⟨rfl, by kernel_rfl⟩) (hsub := ⟨_, (by repeat (first | exact Takes.nil | apply Takes.dup rfl | apply Takes.cons | exact Take1.here | apply Take1.there))⟩) (i := 2) (hi := rfl) (hs := by kernel_rfl) (hfr := by kernel_rfl) (hr := by kernel_rfl) (hQ := (by repeat (first | exact NoPanic.fpost | apply NoPanic.then_ | apply NoPanic.block))) (hd := rfl); case hx => (first | exact Ex.indexN rfl rfl (by first | omega | (simp; done) | (simp; omega))))
      first | (apply GA.take _ (hD := .inr ⟨rfl, by kernel_rfl⟩) (hsub := ⟨_, (by repeat (first | exact Takes.nil | apply Takes.dup rfl | apply Takes.cons | exact Take1.here | apply Take1.there))⟩) (i := 3) (hi := rfl) (hs := by kernel_rfl) (hfr := by kernel_rfl) (hr := by kernel_rfl) (hQ := (by repeat (first | exact NoPanic.fpost | apply NoPanic.then_ | apply NoPanic.block))) (hd := rfl); case hx => (first | exact Ex.loadT0 rfl (by first | omega | (simp; done) | (simp; omega)) rfl))
      first | (apply GA.take [] (hD := .inl rfl) (hsub := ⟨_, Takes.nil⟩) (i := 4) (hi := rfl) (hs := by kernel_rfl) (hfr := by kernel_rfl) (hr := by kernel_rfl) (hQ := (by repeat (first | exact NoPanic.fpost | apply NoPanic.then_ | apply NoPanic.block))) (hd := rfl); case hx => (first | exact Ex.move rfl))
      first | (apply GA.take [] (hD := .inl rfl) (hsub := ⟨_, Takes.nil⟩) (i := 5) (hi := rfl) (hs := by kernel_rfl) (hfr := by kernel_rfl) (hr := by kernel_rfl) (hQ := (by repeat (first | exact NoPanic.fpost | apply NoPanic.then_ | apply NoPanic.block))) (hd := rfl); case hx => (first | exact Ex.move rfl))
      first | (apply GA.take _ (hD := .inr ⟨rfl, by kernel_rfl⟩) (hsub := ⟨_, (by repeat (first | exact Takes.nil | apply Takes.dup rfl | apply Takes.cons | exact Take1.here | apply Take1.there))⟩) (i := 6) (hi := rfl) (hs := by kernel_rfl) (hfr := by kernel_rfl) (hr := by kernel_rfl) (hQ := (by repeat (first | exact NoPanic.fpost | apply NoPanic.then_ | apply NoPanic.block))) (hd := rfl); case hx => (first | exact Ex.indexN rfl rfl (by first | omega | (simp; done) | (simp; omega))))
      first | (apply GA.take _ (hD := .inr ⟨rfl, by kernel_rfl⟩) (hsub := ⟨_, (by repeat (first | exact Takes.nil | apply Takes.dup rfl | apply Takes.cons | exact Take1.here | apply Take1.there))⟩) (i := 7) (hi := rfl) (hs := by kernel_rfl) (hfr := by kernel_rfl) (hr := by kernel_rfl) (hQ := (by repeat (first | exact NoPanic.fpost | apply NoPanic.then_ | apply NoPanic.block))) (hd := rfl); case hx => (first | exact Ex.loadT0 rfl (by first | omega | (simp; done) | (simp; omega)) rfl))
      generalize A.getD k default = x at *
      generalize B.getD k default = y at *
      refine GA.one (i := 8) (by kernel_rfl) rfl ?_
      first | refine G.call (caps := []) (sameBytes_sp (.sl x.ao x.n x.c 1 (flat eB x.l)) (.sl y.ao y.n y.c 1 (flat eB y.l)) x.ao y.ao x.n x.c y.n y.c x.l y.l hx1 hy1 (by omega) (by omega)) rfl rfl rfl rfl (by repeat (first | exact Takes.nil | apply Takes.dup rfl | apply Takes.cons | exact Take1.here | apply Take1.there)) ?_ | refine G.callU (caps := []) (sameBytes_sp (.sl x.ao x.n x.c 1 (flat eB x.l)) (.sl y.ao y.n y.c 1 (flat eB y.l)) x.ao y.ao x.n x.c y.n y.c x.l y.l hx1 hy1 (by omega) (by omega)) rfl rfl rfl (by repeat (first | exact Takes.nil | apply Takes.dup rfl | apply Takes.cons | exact Take1.here | apply Take1.there)) ?_
      rintro v_ give_ ⟨rfl, rfl⟩ rs_ hrs_
      simp only [List.cons_append, List.nil_append] at hrs_
      subst hrs_
      try refine G.nil ?_
      refine GA.back (by first | exact .inl (by decide) | exact .inr ⟨_, (by repeat (first | exact Takes.nil | apply Takes.dup rfl | apply Takes.cons | exact Take1.here | apply Take1.there))⟩) ?_
      first | (apply GA.take [] (hD := .inl rfl) (hsub := ⟨_, Takes.nil⟩) (i := 9) (hi := rfl) (hs := by kernel_rfl) (hfr := by kernel_rfl) (hr := by kernel_rfl) (hQ := (by repeat (first | exact NoPanic.fpost | apply NoPanic.then_ | apply NoPanic.block))) (hd := rfl); case hx => (first | exact Ex.notD rfl))
      refine GA.done (by kernel_rfl) ?_
      by_cases hxy : x.l = y.l
      · rw [show decide (¬ x.l = y.l) = false from decide_eq_false (fun h => h hxy)]
        have he' : dats (A.take (k + 1)) = dats (B.take (k + 1)) := by rw [htA, htB, he, hxy]
        repeat (first | (apply G.ex (hd := rfl); case h => (first | exact Ex.move rfl | exact Ex.add rfl rfl (by omega) | exact Ex.assign rfl)) | refine G.nil ?_ | refine GC.region ?_ | refine GC.skip ?_ | refine GE.then_normal ?_ | refine GE.block_normal ?_ | refine GC.cond_f rfl ?_)
        refine GE.loop (k + 1) ⟨by omega, he'⟩ (by omega) (by simp only [fits]; repeat (first | exact trivial | refine And.intro rfl ?_)) (by repeat (first | exact Takes.nil | apply Takes.dup rfl | apply Takes.cons | exact Take1.here | apply Take1.there)) (by repeat (first | exact Subs.refl | refine Subs.skip ?_))
      · rw [show decide (¬ x.l = y.l) = true from decide_eq_true hxy]
        have hne : ¬ dats A = dats B := fun e => by rw [e, hdB] at hdA; simp at hdA; exact hxy hdA.symm
        repeat (first | (apply G.ex (hd := rfl); case h => (first | exact Ex.assign rfl)) | refine G.nil ?_ | refine GC.seq ?_ | refine GC.region ?_ | refine GC.ret ?_ | refine GE.then_normal ?_ | refine GE.then_ret ?_ | refine GE.block_ret ?_ | refine GC.cond_t rfl ?_)
        refine GE.ret (by first | exact .inl rfl | exact .inr rfl) (by first | exact res0 Try.results23 | exact res1 Try.results23 rfl | exact res2 Try.results23 rfl rfl | exact resR1 Try.results23 (by first | exact RV.tmp rfl | exact RV.cell rfl rfl | exact RV.cell1 rfl) | exact resR2 Try.results23 (by first | exact RV.tmp rfl | exact RV.cell rfl rfl | exact RV.cell1 rfl) (by first | exact RV.tmp rfl | exact RV.cell rfl rfl | exact RV.cell1 rfl) | exact resR3 Try.results23 (by first | exact RV.tmp rfl | exact RV.cell rfl rfl | exact RV.cell1 rfl) (by first | exact RV.tmp rfl | exact RV.cell rfl rfl | exact RV.cell1 rfl) (by first | exact RV.tmp rfl | exact RV.cell rfl rfl | exact RV.cell1 rfl)) ⟨congrArg Value.bool (decide_eq_false hne).symm, rfl⟩ (by repeat (first | exact Takes.nil | apply Takes.dup rfl | apply Takes.cons | exact Take1.here | apply Take1.there)) (by repeat (first | exact Subs.refl | refine Subs.skip ?_))
    · have hkn : k = n := by omega
      have e : dats A = dats B := by rw [← List.take_of_length_le (Nat.le_of_eq hA), ← hkn, he, hkn, List.take_of_length_le (Nat.le_of_eq hB)]
      repeat (first | (apply G.ex (hd := rfl); case h => (first | exact Ex.assign rfl)) | refine G.nil ?_ | refine GC.seq ?_ | refine GC.region ?_ | refine GC.ret ?_ | refine GC.exit ?_ | refine GE.then_normal ?_ | refine GE.then_exit ?_ | refine GE.block_hit ?_)
      refine GE.ret (by first | exact .inl rfl | exact .inr rfl) (by first | exact res0 Try.results23 | exact res1 Try.results23 rfl | exact res2 Try.results23 rfl rfl | exact resR1 Try.results23 (by first | exact RV.tmp rfl | exact RV.cell rfl rfl | exact RV.cell1 rfl) | exact resR2 Try.results23 (by first | exact RV.tmp rfl | exact RV.cell rfl rfl | exact RV.cell1 rfl) (by first | exact RV.tmp rfl | exact RV.cell rfl rfl | exact RV.cell1 rfl) | exact resR3 Try.results23 (by first | exact RV.tmp rfl | exact RV.cell rfl rfl | exact RV.cell1 rfl) (by first | exact RV.tmp rfl | exact RV.cell rfl rfl | exact RV.cell1 rfl) (by first | exact RV.tmp rfl | exact RV.cell rfl rfl | exact RV.cell1 rfl)) ⟨congrArg Value.bool (decide_eq_true e).symm, rfl⟩ (by repeat (first | exact Takes.nil | apply Takes.dup rfl | apply Takes.cons | exact Take1.here | apply Take1.there)) (by repeat (first | exact Subs.refl | refine Subs.skip ?_))
set_option maxHeartbeats 4000000 in
theorem frameBack_sp (a0 : Option Addr) (len0 cap0 : Nat) (z0 : List (SlD UInt8)) (hl0 : z0.length = len0) (hb0 : len0 ≤ 9223372036854775807) (hz0 : ∀ x ∈ z0, x.l.length = x.n ∧ x.n ≤ 9223372036854775807) (a1 : Option Addr) (len1 cap1 : Nat) (z1 : List UInt8) (hl1 : z1.length = len1) (hb1 : len1 ≤ 9223372036854775807) :
    Spec Try.prog 4 [.slice a0 len0 cap0, .slice a1 len1 cap1] [.sl a0 len0 cap0 1 (flat eS z0), .per (Rd eB 1 z0), .sl a1 len1 cap1 1 (flat eB z1)] fun v give => v = .bool true ∧ give = [] := by
  refine Spec.intro Try.func4 rfl Try.ntmps4 rfl fun w0 rest rs_ hrs_ => ?_
  simp only [List.cons_append, List.nil_append] at hrs_
  subst hrs_
  repeat (first | (apply G.ex (hd := rfl); case h => (first | exact Ex.move rfl | exact Ex.assign rfl)) | refine G.nil ?_ | refine GC.seq ?_ | refine GC.region ?_ | refine GE.then_normal ?_)
  first | refine G.call (caps := []) (wrapped_sp a0 len0 cap0 z0 hl0 hb0 hz0 30 (by omega)) rfl rfl rfl rfl (by repeat (first | exact Takes.nil | apply Takes.dup rfl | apply Takes.cons | exact Take1.here | apply Take1.there)) ?_ | refine G.callU (caps := []) (wrapped_sp a0 len0 cap0 z0 hl0 hb0 hz0 30 (by omega)) rfl rfl rfl (by repeat (first | exact Takes.nil | apply Takes.dup rfl | apply Takes.cons | exact Take1.here | apply Take1.there)) ?_
  rintro v_ give_ ⟨B, oa, oc, ba, bc, rfl, hB, hBn, rfl⟩ rs_ hrs_
  simp only [List.cons_append, List.nil_append] at hrs_
  subst hrs_
  have hwl := wrap_len (dats B) 100 (hB.dats (Nat.le_refl _))
  rw [show (dats B).length = B.length by rw [dats, List.length_map]] at hwl
  have hwl2 : (wrap (dats B)).length ≤ 3120 := by omega
  clear hwl
  repeat (first | (apply G.ex (hd := rfl); case h => (first | exact Ex.move rfl | exact Ex.extract rfl rfl | exact Ex.assign rfl)) | refine G.nil ?_ | refine GC.seq ?_ | refine GC.region ?_ | refine GE.then_normal ?_)
  first | refine G.call (caps := []) (octets_sp a1 len1 cap1 z1 hl1 hb1 100 (by omega)) rfl rfl rfl rfl (by repeat (first | exact Takes.nil | apply Takes.dup rfl | apply Takes.cons | exact Take1.here | apply Take1.there)) ?_ | refine G.callU (caps := []) (octets_sp a1 len1 cap1 z1 hl1 hb1 100 (by omega)) rfl rfl rfl (by repeat (first | exact Takes.nil | apply Takes.dup rfl | apply Takes.cons | exact Take1.here | apply Take1.there)) ?_
  rintro v_ give_ ⟨b1, c1, rfl, rfl⟩ rs_ hrs_
  simp only [List.cons_append, List.nil_append] at hrs_
  subst hrs_
  have hm : min len1 100 ≤ 100 := Nat.min_le_right ..
  have hm0 : len1 = 0 → min len1 100 = 0 := fun h => by omega
  have hxl : (z1.take 100).length = min len1 100 := by rw [List.length_take]; omega
  generalize min len1 100 = m at *
  generalize z1.take 100 = b at *
  first | refine G.frz b1 ?_ | refine GC.frz b1 ?_ | refine GE.frz b1 ?_
  repeat (first | fail)
  first | refine G.call (caps := []) (wrap_sp b1 m c1 b hxl (by omega)) rfl rfl rfl rfl (by repeat (first | exact Takes.nil | apply Takes.dup rfl | apply Takes.cons | exact Take1.here | apply Take1.there)) ?_ | refine G.callU (caps := []) (wrap_sp b1 m c1 b hxl (by omega)) rfl rfl rfl (by repeat (first | exact Takes.nil | apply Takes.dup rfl | apply Takes.cons | exact Take1.here | apply Take1.there)) ?_
  rintro v_ give_ ⟨xa, xc, rfl, rfl⟩ rs_ hrs_
  simp only [List.cons_append, List.nil_append] at hrs_
  subst hrs_
  have hfl : (fr b).length = 4 + m := by rw [fr_len, hxl]
  first | refine G.frz xa ?_ | refine GC.frz xa ?_ | refine GE.frz xa ?_
  repeat (first | (apply G.ex (hd := rfl); case h => (first | exact Ex.move rfl | exact Ex.sub rfl rfl (by omega) | exact Ex.neI rfl rfl | exact Ex.lenSl rfl | exact Ex.extract rfl rfl | exact Ex.assign rfl | exact Ex.notB rfl | exact Ex.pickLF rfl rfl)) | refine G.yes rfl rfl ?_ | refine G.nil ?_ | refine GC.seq ?_ | refine GC.region ?_ | refine GC.skip ?_ | refine GE.then_normal ?_ | refine GC.cond_no rfl (by first | assumption | omega) ?_)
  rw [show ((fr b).length : Int) - 1 = ((3 + m : Nat) : Int) by omega]
  refine G.sub (l := 0) (r := (3 + m)) rfl rfl (by first | exact .inl ⟨rfl, rfl⟩ | exact .inr ⟨_, _, rfl, ev_int rfl (by omega)⟩) (by first | exact .inl ⟨rfl, rfl⟩ | exact .inr ⟨_, _, rfl, ev_int rfl (by omega)⟩) (by omega) rfl (rfl) (fun s1 => ?_)
  rw [flat_cut (enc := eB) (s := 1) inferInstance (fr b) 0 (3 + m), List.drop_zero, Nat.sub_zero]
  have hlp : ((fr b).take (3 + m)).length = 3 + m := by rw [List.length_take]; omega
  have hst := stop_part b (3 + m) (by omega) (by omega)
  have hnb := not_big_part b (3 + m) (by omega)
  by_cases hz : len1 = 0
  · have hmz := hm0 hz
    subst hmz
    repeat (first | (apply G.ex (hd := rfl); case h => (first | exact Ex.move rfl | exact Ex.eqI rfl rfl | exact Ex.lenSl rfl | exact Ex.assign rfl)) | refine G.nil ?_ | refine GC.seq ?_ | refine GC.region ?_ | refine GE.then_normal ?_ | refine GC.cond_yes rfl (by first | assumption | omega) ?_)
    refine G.sub (l := 0) (r := 3) rfl rfl (by first | exact .inl ⟨rfl, rfl⟩ | exact .inr ⟨_, _, rfl, ev_int rfl (by omega)⟩) (by first | exact .inl ⟨rfl, rfl⟩ | exact .inr ⟨_, _, rfl, ev_int rfl (by omega)⟩) (by omega) rfl (rfl) (fun s2 => ?_)
    rw [flat_cut (enc := eB) (s := 1) inferInstance (fr b) 0 3, List.drop_zero, Nat.sub_zero]
    rw [Nat.add_zero] at hlp hst hnb
    generalize (fr b).take 3 = R at *
    repeat (first | (apply G.ex (hd := rfl); case h => (first | exact Ex.move rfl | exact Ex.assign rfl)) | refine G.nil ?_ | refine GC.seq ?_ | refine GC.region ?_ | refine GE.then_normal ?_)
    refine G.appNil rfl rfl (by rfl) (by omega) rfl (rfl) (fun ga gc => ?_)
    repeat (first | (apply G.ex (hd := rfl); case h => (first | exact Ex.move rfl)))
    have hcat : flat eB (wrap (dats B)) ++ flat eB R = flat eB (wrap (dats B) ++ R) := (flat_append ..).symm
    have hcl : (wrap (dats B) ++ R).length = (wrap (dats B)).length + 3 := by rw [List.length_append, hlp]
    refine G.app rfl rfl (by rfl) (by omega) rfl (hcat) (fun ga2 gc2 rs_ hrs_ => ?_)
    try simp only at hrs_
    subst hrs_
    rw [← hcl]
    first | refine G.frz ga2 ?_ | refine GC.frz ga2 ?_ | refine GE.frz ga2 ?_
    repeat (first | fail)
    refine G.nilvec 5 1 ?_
    first | refine G.frz none ?_ | refine GC.frz none ?_ | refine GE.frz none ?_
    first | refine G.call (caps := []) (feed_ok_sp none 0 0 [] rfl (by omega) ga2 (wrap (dats B) ++ R).length gc2 (wrap (dats B) ++ R) rfl (by omega) (fun F r h1 h2 h3 => (wrap_inj (hB.dats (by omega)) h1 hst h2 (by simpa using h3)).2 ▸ hnb)) rfl rfl rfl rfl (by repeat (first | exact Takes.nil | apply Takes.dup rfl | apply Takes.cons | exact Take1.here | apply Take1.there)) ?_ | refine G.callU (caps := []) (feed_ok_sp none 0 0 [] rfl (by omega) ga2 (wrap (dats B) ++ R).length gc2 (wrap (dats B) ++ R) rfl (by omega) (fun F r h1 h2 h3 => (wrap_inj (hB.dats (by omega)) h1 hst h2 (by simpa using h3)).2 ▸ hnb)) rfl rfl rfl (by repeat (first | exact Takes.nil | apply Takes.dup rfl | apply Takes.cons | exact Take1.here | apply Take1.there)) ?_
    rintro v_ give_ ⟨A, rest, fa, fc, ra, rc, rfl, he, hA, hsr, hnr, rfl⟩ rs_ hrs_
    simp only [List.cons_append, List.nil_append] at hrs_
    subst hrs_
    obtain ⟨e1, e2⟩ := wrap_inj (hB.dats (by omega)) (hA.dats (Nat.le_refl _)) hst hsr (by simpa using he)
    subst e2
    have hAB : A.length = B.length := by have := congrArg List.length e1; simp only [dats, List.length_map] at this; omega
    repeat (first | (apply G.ex (hd := rfl); case h => (first | exact Ex.move rfl | exact Ex.eqI rfl rfl | exact Ex.extract rfl rfl | exact Ex.assign rfl)) | refine G.g_tt rfl rfl (by first | assumption | omega) ?_ | refine G.nil ?_ | refine GC.seq ?_ | refine GC.region ?_ | refine GE.then_normal ?_)
    first | refine G.call (caps := []) (sameLists_sp fa A.length fc A rfl ba B.length bc B rfl (by omega) (by omega) (fun x hx => ⟨(hA x hx).1, by have := (hA x hx).2; omega⟩) (fun x hx => ⟨(hB x hx).1, by have := (hB x hx).2; omega⟩)) rfl rfl rfl rfl (by repeat (first | exact Takes.nil | apply Takes.dup rfl | apply Takes.cons | exact Take1.here | apply Take1.there)) ?_ | refine G.callU (caps := []) (sameLists_sp fa A.length fc A rfl ba B.length bc B rfl (by omega) (by omega) (fun x hx => ⟨(hA x hx).1, by have := (hA x hx).2; omega⟩) (fun x hx => ⟨(hB x hx).1, by have := (hB x hx).2; omega⟩)) rfl rfl rfl (by repeat (first | exact Takes.nil | apply Takes.dup rfl | apply Takes.cons | exact Take1.here | apply Take1.there)) ?_
    rintro v_ give_ ⟨rfl, rfl⟩ rs_ hrs_
    simp only [List.cons_append, List.nil_append] at hrs_
    subst hrs_
    rw [decide_eq_true e1.symm]
    repeat (first | (apply G.ex (hd := rfl); case h => (first | exact Ex.move rfl | exact Ex.pickT rfl (by first | assumption | omega) rfl)) | refine G.yes rfl rfl ?_)
    first | refine G.call (caps := []) (sameBytes_sp (.vec 5 1 ra R.length rc (flat eB R)) (.sl s2 (3) (xc - 0) 1 (flat eB R)) ra s2 R.length rc (3) (xc - 0) R R rfl hlp (by omega) (by omega)) rfl rfl rfl rfl (by repeat (first | exact Takes.nil | apply Takes.dup rfl | apply Takes.cons | exact Take1.here | apply Take1.there)) ?_ | refine G.callU (caps := []) (sameBytes_sp (.vec 5 1 ra R.length rc (flat eB R)) (.sl s2 (3) (xc - 0) 1 (flat eB R)) ra s2 R.length rc (3) (xc - 0) R R rfl hlp (by omega) (by omega)) rfl rfl rfl (by repeat (first | exact Takes.nil | apply Takes.dup rfl | apply Takes.cons | exact Take1.here | apply Take1.there)) ?_
    rintro v_ give_ ⟨rfl, rfl⟩ rs_ hrs_
    simp only [List.cons_append, List.nil_append] at hrs_
    subst hrs_
    repeat (first | (apply G.ex (hd := rfl); case h => (first | exact Ex.assign rfl | exact Ex.pickLT rfl rfl)) | refine G.nil ?_ | refine GC.ret ?_ | refine GE.then_normal ?_)
    refine GE.ret (by first | exact .inl rfl | exact .inr rfl) (by first | exact res0 Try.results4 | exact res1 Try.results4 rfl | exact res2 Try.results4 rfl rfl | exact resR1 Try.results4 (by first | exact RV.tmp rfl | exact RV.cell rfl rfl | exact RV.cell1 rfl) | exact resR2 Try.results4 (by first | exact RV.tmp rfl | exact RV.cell rfl rfl | exact RV.cell1 rfl) (by first | exact RV.tmp rfl | exact RV.cell rfl rfl | exact RV.cell1 rfl) | exact resR3 Try.results4 (by first | exact RV.tmp rfl | exact RV.cell rfl rfl | exact RV.cell1 rfl) (by first | exact RV.tmp rfl | exact RV.cell rfl rfl | exact RV.cell1 rfl) (by first | exact RV.tmp rfl | exact RV.cell rfl rfl | exact RV.cell1 rfl)) ⟨by simp, rfl⟩ (by repeat (first | exact Takes.nil | apply Takes.dup rfl | apply Takes.cons | exact Take1.here | apply Take1.there)) (by repeat (first | exact Subs.refl | refine Subs.skip ?_))
  · generalize (fr b).take (3 + m) = R at *
    repeat (first | (apply G.ex (hd := rfl); case h => (first | exact Ex.move rfl | exact Ex.eqI rfl rfl | exact Ex.lenSl rfl | exact Ex.assign rfl)) | refine G.nil ?_ | refine GC.seq ?_ | refine GC.region ?_ | refine GC.skip ?_ | refine GE.then_normal ?_ | refine GC.cond_no rfl (by first | assumption | omega) ?_)
    refine G.appNil rfl rfl (by rfl) (by omega) rfl (rfl) (fun ga gc => ?_)
    repeat (first | (apply G.ex (hd := rfl); case h => (first | exact Ex.move rfl)))
    have hcat : flat eB (wrap (dats B)) ++ flat eB R = flat eB (wrap (dats B) ++ R) := (flat_append ..).symm
    have hcl : (wrap (dats B) ++ R).length = (wrap (dats B)).length + (3 + m) := by rw [List.length_append, hlp]
    refine G.app rfl rfl (by rfl) (by omega) rfl (hcat) (fun ga2 gc2 rs_ hrs_ => ?_)
    try simp only at hrs_
    subst hrs_
    rw [← hcl]
    first | refine G.frz ga2 ?_ | refine GC.frz ga2 ?_ | refine GE.frz ga2 ?_
    repeat (first | fail)
    refine G.nilvec 5 1 ?_
    first | refine G.frz none ?_ | refine GC.frz none ?_ | refine GE.frz none ?_
    first | refine G.call (caps := []) (feed_ok_sp none 0 0 [] rfl (by omega) ga2 (wrap (dats B) ++ R).length gc2 (wrap (dats B) ++ R) rfl (by omega) (fun F r h1 h2 h3 => (wrap_inj (hB.dats (by omega)) h1 hst h2 (by simpa using h3)).2 ▸ hnb)) rfl rfl rfl rfl (by repeat (first | exact Takes.nil | apply Takes.dup rfl | apply Takes.cons | exact Take1.here | apply Take1.there)) ?_ | refine G.callU (caps := []) (feed_ok_sp none 0 0 [] rfl (by omega) ga2 (wrap (dats B) ++ R).length gc2 (wrap (dats B) ++ R) rfl (by omega) (fun F r h1 h2 h3 => (wrap_inj (hB.dats (by omega)) h1 hst h2 (by simpa using h3)).2 ▸ hnb)) rfl rfl rfl (by repeat (first | exact Takes.nil | apply Takes.dup rfl | apply Takes.cons | exact Take1.here | apply Take1.there)) ?_
    rintro v_ give_ ⟨A, rest, fa, fc, ra, rc, rfl, he, hA, hsr, hnr, rfl⟩ rs_ hrs_
    simp only [List.cons_append, List.nil_append] at hrs_
    subst hrs_
    obtain ⟨e1, e2⟩ := wrap_inj (hB.dats (by omega)) (hA.dats (Nat.le_refl _)) hst hsr (by simpa using he)
    subst e2
    have hAB : A.length = B.length := by have := congrArg List.length e1; simp only [dats, List.length_map] at this; omega
    repeat (first | (apply G.ex (hd := rfl); case h => (first | exact Ex.move rfl | exact Ex.eqI rfl rfl | exact Ex.extract rfl rfl | exact Ex.assign rfl)) | refine G.g_tt rfl rfl (by first | assumption | omega) ?_ | refine G.nil ?_ | refine GC.seq ?_ | refine GC.region ?_ | refine GE.then_normal ?_)
    first | refine G.call (caps := []) (sameLists_sp fa A.length fc A rfl ba B.length bc B rfl (by omega) (by omega) (fun x hx => ⟨(hA x hx).1, by have := (hA x hx).2; omega⟩) (fun x hx => ⟨(hB x hx).1, by have := (hB x hx).2; omega⟩)) rfl rfl rfl rfl (by repeat (first | exact Takes.nil | apply Takes.dup rfl | apply Takes.cons | exact Take1.here | apply Take1.there)) ?_ | refine G.callU (caps := []) (sameLists_sp fa A.length fc A rfl ba B.length bc B rfl (by omega) (by omega) (fun x hx => ⟨(hA x hx).1, by have := (hA x hx).2; omega⟩) (fun x hx => ⟨(hB x hx).1, by have := (hB x hx).2; omega⟩)) rfl rfl rfl (by repeat (first | exact Takes.nil | apply Takes.dup rfl | apply Takes.cons | exact Take1.here | apply Take1.there)) ?_
    rintro v_ give_ ⟨rfl, rfl⟩ rs_ hrs_
    simp only [List.cons_append, List.nil_append] at hrs_
    subst hrs_
    rw [decide_eq_true e1.symm]
    repeat (first | (apply G.ex (hd := rfl); case h => (first | exact Ex.move rfl | exact Ex.pickT rfl (by first | assumption | omega) rfl)) | refine G.yes rfl rfl ?_)
    first | refine G.call (caps := []) (sameBytes_sp (.vec 5 1 ra R.length rc (flat eB R)) (.sl s1 (3 + m) (xc - 0) 1 (flat eB R)) ra s1 R.length rc (3 + m) (xc - 0) R R rfl hlp (by omega) (by omega)) rfl rfl rfl rfl (by repeat (first | exact Takes.nil | apply Takes.dup rfl | apply Takes.cons | exact Take1.here | apply Take1.there)) ?_ | refine G.callU (caps := []) (sameBytes_sp (.vec 5 1 ra R.length rc (flat eB R)) (.sl s1 (3 + m) (xc - 0) 1 (flat eB R)) ra s1 R.length rc (3 + m) (xc - 0) R R rfl hlp (by omega) (by omega)) rfl rfl rfl (by repeat (first | exact Takes.nil | apply Takes.dup rfl | apply Takes.cons | exact Take1.here | apply Take1.there)) ?_
    rintro v_ give_ ⟨rfl, rfl⟩ rs_ hrs_
    simp only [List.cons_append, List.nil_append] at hrs_
    subst hrs_
    repeat (first | (apply G.ex (hd := rfl); case h => (first | exact Ex.assign rfl | exact Ex.pickLT rfl rfl)) | refine G.nil ?_ | refine GC.ret ?_ | refine GE.then_normal ?_)
    refine GE.ret (by first | exact .inl rfl | exact .inr rfl) (by first | exact res0 Try.results4 | exact res1 Try.results4 rfl | exact res2 Try.results4 rfl rfl | exact resR1 Try.results4 (by first | exact RV.tmp rfl | exact RV.cell rfl rfl | exact RV.cell1 rfl) | exact resR2 Try.results4 (by first | exact RV.tmp rfl | exact RV.cell rfl rfl | exact RV.cell1 rfl) (by first | exact RV.tmp rfl | exact RV.cell rfl rfl | exact RV.cell1 rfl) | exact resR3 Try.results4 (by first | exact RV.tmp rfl | exact RV.cell rfl rfl | exact RV.cell1 rfl) (by first | exact RV.tmp rfl | exact RV.cell rfl rfl | exact RV.cell1 rfl) (by first | exact RV.tmp rfl | exact RV.cell rfl rfl | exact RV.cell1 rfl)) ⟨by simp, rfl⟩ (by repeat (first | exact Takes.nil | apply Takes.dup rfl | apply Takes.cons | exact Take1.here | apply Take1.there)) (by repeat (first | exact Subs.refl | refine Subs.skip ?_))
end frame
end Go.Proofs.Ytcabcpealkbekaa
