/-
  CONTRACT of packthreadkeep.fetched, by the kit.
-/
import Derived.Test.YtpeidlaejjfmeaaFetchC
import Derived.Test.YtpeidlaejjfmeaaFetchAllP
import Derived.Test.YtpeidlaejjfmeaaStream
import Derived.Test.YtpeidlaejjfmeaaKit14
import Derived.Test.YtpeidlaejjfmeaaKit24
import Derived.Test.YtpeidlaejjfmeaaKit29
namespace Go.Proofs.Ytpeidlaejjfmeaa
open Go.RowKit
attribute [local irreducible] Ex G GC GE Gq FPost LPost
set_option linter.unusedVariables false
set_option linter.unusedSimpArgs false
namespace fetch
open strm
theorem flat_cutW (l : List Wa) (a b : Nat) : ((flat eW l).drop (a * 2)).take ((b - a) * 2) = flat eW ((l.drop a).take (b - a)) := by
  rw [flat_drop (inferInstance : Enc eW 2), flat_take (inferInstance : Enc eW 2)]
theorem take_snocF {α : Type} [Inhabited α] (l : List α) (k : Nat) (h : k < l.length) : l.take (k + 1) = l.take k ++ [l.getD k default] := by
  rw [List.getD_eq_getElem?_getD, List.getElem?_eq_getElem h]; simp
set_option maxHeartbeats 16000000 in
set_option maxRecDepth 100000 in
theorem fetched_sp (so : Option Addr) (n sc : Nat) (S : List UInt8) (hS : S.length = n) (hn : n ≤ 900) (ao : Option Addr) (len cap : Nat) (z : List Int) (hl : z.length = len) (hb : len ≤ 9223372036854775807) (hw : ∀ x ∈ z, -9223372036854775808 ≤ x ∧ x ≤ 9223372036854775807) :
    Spec Try.prog 7 [.slice so n sc, .slice ao len cap] [.sl so n sc 1 (flat eB S), .sl ao len cap 1 (flat (eI .i64) z)] fun v give => ∃ xo xc, v = .tuple #[.slice xo n xc, .bool true] ∧ give = [.sl xo n xc 1 (flat eB S)] := by
  have htt : ¬ ¬ true = true := fun h => h rfl
  obtain ⟨p1, p2, p3, p4, p5⟩ := first_step S
  obtain ⟨f1, hf1⟩ : ∃ f1, f1 = (onF newF []).1 := ⟨_, rfl⟩
  refine Spec.intro Try.func7 rfl Try.ntmps7 rfl fun w0 rest rs_ hrs_ => ?_
  simp only [List.cons_append, List.nil_append] at hrs_
  subst hrs_
  first | refine G.nilvec 32 3 ?_ | refine GC.nilvec 32 3 ?_
  refine GC.conv (fun w_ H_ => Holds.rdNil eB 1 H_) ?_
  repeat (first | (apply G.ex (hd := rfl); case h => (first | exact Ex.assign rfl)) | refine G.nil ?_ | refine GC.seq ?_ | refine GC.region ?_ | refine GE.then_normal ?_)
  first | refine G.call (caps := []) (play_sp (.vec 32 3 none 0 0 (flat eG [])) none 0 0 [] rfl (by omega) (fun m h => (nomatch h))) rfl rfl rfl rfl (by repeat (first | exact Takes.nil | apply Takes.dup rfl | apply Takes.cons | exact Take1.here | apply Take1.there)) ?_ | refine G.callU (caps := []) (play_sp (.vec 32 3 none 0 0 (flat eG [])) none 0 0 [] rfl (by omega) (fun m h => (nomatch h))) rfl rfl rfl (by repeat (first | exact Takes.nil | apply Takes.dup rfl | apply Takes.cons | exact Take1.here | apply Take1.there)) ?_
  rintro v_ give_ ⟨T0, t0, tc0, hT0, rfl, rfl⟩ rs_ hrs_
  simp only [List.cons_append, List.nil_append] at hrs_
  subst hrs_
  have hT0l : T0.length = 1 := by
    have := congrArg List.length hT0
    rw [List.length_map] at this
    exact this
  have hT00 : (T0.getD 0 default).t = (onF newF []).2 := by
    rw [← getD_mapT (fun x : NeM => x.t) T0 0 (by omega), hT0]; rfl
  have h01 : 0 < T0.length := by omega
  have hT6 : (T0.getD 0 default).t.wants.length = 6 := by rw [hT00]; exact first_six.1
  refine G.conv (fun w_ H_ => H_.rdAt (l := T0.map wF) (enc := eW) (s := 2) (by simp) 0 (by rw [List.length_map]; omega)) ?_
  rw [getD_mapT wF T0 0 h01]
  simp only [wF]
  repeat (first | (apply G.ex (hd := rfl); case h => (first | exact Ex.move rfl | exact Ex.fieldE rfl | exact Ex.neI rfl rfl | exact Ex.lenSl rfl | exact Ex.indexN rfl rfl (by first | omega | (simp; done) | (simp; omega)) | exact Ex.loadT rfl (by first | omega | (simp; done) | (simp; omega)) rfl | exact Ex.extract rfl rfl | exact Ex.assign rfl | exact Ex.pickF rfl (by first | assumption | omega) rfl)) | refine G.g_ff rfl rfl (by first | assumption | omega) ?_ | refine G.nil ?_ | refine GC.seq ?_ | refine GC.region ?_ | refine GC.skip ?_ | refine GE.then_normal ?_ | refine GC.cond_no rfl (by first | assumption | omega) ?_)
  have p6 := first_six.1
  rw [hT00]
  refine G.appNil rfl rfl (by rfl) (by omega) rfl (rfl) (fun ow0 oc0 => ?_)
  rw [← p2, ← hf1]
  rw [← hf1] at p1 p3 p4 p5
  repeat (first | (apply G.ex (hd := rfl); case h => (first | exact Ex.assign rfl)) | refine G.nil ?_ | refine GC.seq ?_ | refine GC.region ?_ | refine GC.block ?_ | refine GE.then_normal ?_)
  refine GC.conv (rs' := [.vec 42 2 ow0 f1.out.length oc0 (flat eW f1.out), .vec 32 3 none 0 0 (flat eG []), .per (Rd eB 1 (([] : List GoM).map (·.d))), .sl so n sc 1 (flat eB S), .sl ao len cap 1 (flat (eI .i64) z)] ++ rest) (fun w_ H_ => ?_) ?_
  · have h_ := H_.take (need := [.vec 42 2 ow0 f1.out.length oc0 (flat eW f1.out), .vec 32 3 none 0 0 (flat eG []), .per (Rd eB 1 (([] : List GoM).map (·.d))), .sl so n sc 1 (flat eB S), .sl ao len cap 1 (flat (eI .i64) z)]) (by repeat (first | exact Takes.nil | apply Takes.dup rfl | apply Takes.cons | exact Take1.here | apply Take1.there))
    exact subs_app (by repeat (first | exact Subs.refl | refine Subs.skip ?_)) h_
  try simp only [List.append_eq, List.nil_append, List.cons_append]
  refine GC.loop (ι := Nat × Fe × (List GoM × Option Addr × Nat) × (Option Addr × Nat)) (fun x => x.1 + Phi S.length x.2.1 ≤ 168 ∧ FI S x.2.1 ∧ asks x.2.1 = false ∧ fin x.2.1 = false ∧ x.2.2.1.1.length = x.1 ∧ (∀ m ∈ x.2.2.1.1, MOk m) ∧ ends f1 (x.2.2.1.1.map toG) = x.2.1) (fun x => 280 - x.1) (fun x => [(0, .slice so n sc), (1, .slice ao len cap), (6, .slice x.2.2.1.2.1 x.1 x.2.2.1.2.2), (9, .slice x.2.2.2.1 x.2.1.out.length x.2.2.2.2), (10, .int .i64 (x.1 : Int))]) (fun x => [.vec 42 2 x.2.2.2.1 x.2.1.out.length x.2.2.2.2 (flat eW x.2.1.out), .vec 32 3 x.2.2.1.2.1 x.1 x.2.2.1.2.2 (flat eG x.2.2.1.1), .per (Rd eB 1 (x.2.2.1.1.map (·.d))), .sl so n sc 1 (flat eB S), .sl ao len cap 1 (flat (eI .i64) z)]) (0, f1, ([], none, 0), (ow0, oc0)) ⟨by simp only; omega, p1, p3, p4, rfl, fun m h => (nomatch h), rfl⟩ (by simp only [fits]; repeat (first | exact trivial | refine And.intro rfl ?_)) (by repeat (first | exact Takes.nil | apply Takes.dup rfl | apply Takes.cons | exact Take1.here | apply Take1.there)) ?_
  rintro ⟨i, f, ⟨G0, og, ogc⟩, ⟨ow, oc⟩⟩ ⟨hi, hF, ha, hfin, hGl, hG, hend⟩ fr_ rs_ hfr_ hrs_
  simp only [List.cons_append, List.nil_append] at hfr_ hrs_
  subst hfr_ hrs_
  simp only at hi hF ha hfin hGl hG hend
  have hne := hF.some (by omega) hfin ha
  have hol := hF.ok.len
  have hop : 0 < f.out.length := List.length_pos_iff.2 hne
  have hi2 : (i : Int) < 280 := by omega
  have ho1 : ¬ (f.out.length : Int) = 0 := by omega
  have ho2 : ¬ (6 : Int) < (f.out.length : Int) := by omega
  repeat ((fail_if_success (refine GC.region (id := 11) ?_)); first | (apply G.ex (hd := rfl); case h => (first | exact Ex.move rfl | exact Ex.lss rfl rfl | exact Ex.gtr rfl rfl | exact Ex.eqI rfl rfl | exact Ex.lenSl rfl | exact Ex.pickF rfl (by first | assumption | omega) rfl)) | refine G.g_ff rfl rfl (by first | assumption | omega) ?_ | refine G.nil ?_ | refine GC.seq ?_ | refine GC.region ?_ | refine GC.block ?_ | refine GC.skip ?_ | refine GE.then_normal ?_ | refine GC.cond_yes rfl (by first | assumption | omega) ?_ | refine GC.cond_no rfl (by first | assumption | omega) ?_)
  refine GC.region ?_
  iterate 3 (first | (apply G.ex (hd := rfl); case h => (first | exact Ex.move rfl | exact Ex.assign rfl | exact Ex.mul rfl rfl (by omega))))
  refine G.nil ?_
  refine GE.then_normal ?_
  refine GC.seq ?_
  refine GC.meet (ι := Int) (fun x => -9223372036854775808 ≤ x ∧ x ≤ 9223372036854775807) (fun x => [(0, .slice so n sc), (1, .slice ao len cap), (6, .slice og i ogc), (9, .slice ow f.out.length oc), (10, .int .i64 (i : Int)), (11, .int .i64 x)]) (fun x => [.vec 42 2 ow f.out.length oc (flat eW f.out), .vec 32 3 og i ogc (flat eG G0), .per (Rd eB 1 (G0.map (·.d))), .sl so n sc 1 (flat eB S), .sl ao len cap 1 (flat (eI .i64) z)]) (.per (Rd eB 1 (([] : List GoM).map (·.d))) :: .sl so n sc 1 (flat eB S) :: .sl ao len cap 1 (flat (eI .i64) z) :: rest) ?_ ?_
  · by_cases hil : (i : Int) < (len : Int)
    · have hb2 := hw (z.getD i default) (getD_mem1 _ _ (by omega))
      repeat (first | (apply G.ex (hd := rfl); case h => (first | exact Ex.move rfl | exact Ex.lss rfl rfl | exact Ex.lenSl rfl | exact Ex.indexN rfl rfl (by first | omega | (simp; done) | (simp; omega)) | exact Ex.loadT0 rfl (by first | omega | (simp; done) | (simp; omega)) rfl | exact Ex.assign rfl)) | refine G.nil ?_ | refine GC.seq ?_ | refine GC.region ?_ | refine GE.then_normal ?_ | refine GC.cond_yes rfl (by first | assumption | omega) ?_)
      refine GE.meet (z.getD i default) hb2 (by simp only [fits]; repeat (first | exact trivial | refine And.intro rfl ?_)) (by repeat (first | exact Takes.nil | apply Takes.dup rfl | apply Takes.cons | exact Take1.here | apply Take1.there)) (by repeat (first | exact Subs.refl | refine Subs.skip ?_))
    · repeat (first | (apply G.ex (hd := rfl); case h => (first | exact Ex.move rfl | exact Ex.lss rfl rfl | exact Ex.lenSl rfl)) | refine G.nil ?_ | refine GC.seq ?_ | refine GC.region ?_ | refine GC.skip ?_ | refine GE.then_normal ?_ | refine GC.cond_no rfl (by first | assumption | omega) ?_)
      refine GE.meet ((i : Int) * 3) ⟨by omega, by omega⟩ (by simp only [fits]; repeat (first | exact trivial | refine And.intro rfl ?_)) (by repeat (first | exact Takes.nil | apply Takes.dup rfl | apply Takes.cons | exact Take1.here | apply Take1.there)) (by repeat (first | exact Subs.refl | refine Subs.skip ?_))
  rintro x hx fr_ rs_ hfr_ hrs_
  simp only [List.cons_append, List.nil_append] at hfr_ hrs_
  subst hfr_ hrs_
  have k1 := Int.emod_nonneg x (show (f.out.length : Int) ≠ 0 by omega)
  have k2 := Int.emod_lt_of_pos x (show (0 : Int) < f.out.length by omega)
  obtain ⟨K, hK⟩ : ∃ K : Nat, x % (f.out.length : Int) = (K : Int) := ⟨(x % (f.out.length : Int)).toNat, by omega⟩
  have hKl : K < f.out.length := by omega
  have hwK := hF.ok.w _ (getD_mem1 f.out K hKl)
  have hcK := hF.c _ (getD_mem1 f.out K hKl)
  repeat (first | (apply G.ex (hd := rfl); case h => (first | exact Ex.move rfl | exact Ex.lenSl rfl)) | refine GC.seq ?_ | refine GC.region ?_ | refine GE.then_normal ?_)
  first | refine G.call (caps := []) (picked_sp x (f.out.length : Int) (by omega) (by omega)) rfl rfl rfl rfl (by repeat (first | exact Takes.nil | apply Takes.dup rfl | apply Takes.cons | exact Take1.here | apply Take1.there)) ?_ | refine G.callU (caps := []) (picked_sp x (f.out.length : Int) (by omega) (by omega)) rfl rfl rfl (by repeat (first | exact Takes.nil | apply Takes.dup rfl | apply Takes.cons | exact Take1.here | apply Take1.there)) ?_
  rintro v_ give_ ⟨rfl, rfl⟩ rs_ hrs_
  simp only [List.cons_append, List.nil_append] at hrs_
  subst hrs_
  rw [hK]
  repeat (first | (apply G.ex (hd := rfl); case h => (first | exact Ex.move rfl | exact Ex.indexN rfl rfl (by first | omega | (simp; done) | (simp; omega)) | exact Ex.assign rfl | exact Ex.loadTA rfl (by first | omega | (simp; done) | (simp; omega)))) | refine G.nil ?_ | refine GC.seq ?_ | refine GC.region ?_ | refine GE.then_normal ?_)
  refine G.alloc rfl (fun wb => ?_)
  repeat ((fail_if_success (refine GC.region (id := 16) ?_)); first | refine G.storeBA rfl rfl rfl rfl rfl ?_ | refine G.nil ?_ | refine GC.seq ?_ | refine GE.then_normal ?_)
  obtain ⟨a, ha0⟩ : ∃ a : Nat, (f.out.getD K default).1 = (a : Int) := ⟨(f.out.getD K default).1.toNat, by omega⟩
  obtain ⟨c, hc0⟩ : ∃ c : Int, (f.out.getD K default).2 = c := ⟨_, rfl⟩
  refine GC.reblk [.int .i64 (a : Int), .int .i64 c] (by rw [← ha0, ← hc0]; rfl) ?_
  have hRdef : ∀ d, Rep S (f.out.getD K default) d ↔ Rep S ((a : Int), c) d := fun d => by rw [show f.out.getD K default = ((a : Int), c) from Prod.ext ha0 hc0]
  rw [ha0, hc0] at hwK hcK
  repeat ((fail_if_success (refine GC.region (id := 18) ?_)); first | (apply G.ex (hd := rfl); case h => (first | exact Ex.move rfl | exact Ex.fieldB rfl | exact Ex.loadB rfl rfl | exact Ex.lss rfl rfl | exact Ex.gtr rfl rfl | exact Ex.pickF rfl (by first | assumption | omega) rfl)) | refine G.g_ff rfl rfl (by first | assumption | omega) ?_ | refine G.nil ?_ | refine GC.seq ?_ | refine GC.region ?_ | refine GC.skip ?_ | refine GE.then_normal ?_ | refine GC.cond_no rfl (by first | assumption | omega) ?_)
  refine GC.region ?_
  iterate 1 (first | (apply G.ex (hd := rfl); case h => (first | exact Ex.assign rfl)))
  refine G.nil ?_
  refine GE.then_normal ?_
  refine GC.seq ?_
  refine GC.meet (ι := List UInt8 × Option Addr × Nat) (fun d => Rep S ((a : Int), c) d.1) (fun d => [(0, .slice so n sc), (1, .slice ao len cap), (6, .slice og i ogc), (9, .slice ow f.out.length oc), (10, .int .i64 (i : Int)), (12, .int .i64 (K : Int)), (13, .pointer (some (badr wb 0))), (14, .slice d.2.1 d.1.length d.2.2)]) (fun d => [.blk wb 42 [.int .i64 (a : Int), .int .i64 c], .vec 42 2 ow f.out.length oc (flat eW f.out), .vec 32 3 og i ogc (flat eG G0), .per (Rd eB 1 (G0.map (·.d))), .sl so n sc 1 (flat eB S), .sl ao len cap 1 (flat (eI .i64) z), .sl d.2.1 d.1.length d.2.2 1 (flat eB d.1)]) (.per (Rd eB 1 (([] : List GoM).map (·.d))) :: .sl so n sc 1 (flat eB S) :: .sl ao len cap 1 (flat (eI .i64) z) :: rest) ?_ ?_
  · by_cases han : (a : Int) < (n : Int)
    · obtain ⟨M, hM⟩ : ∃ M : Nat, min c ((n : Int) - (a : Int)) = (M : Int) := ⟨(min c ((n : Int) - (a : Int))).toNat, by omega⟩
      have hM1 : 1 ≤ M := by omega
      have hRepM : ∀ m : Nat, 1 ≤ m → m ≤ M → M ≤ 2 * m → a + m ≤ n ∧ ((S.drop a).take m).length = m ∧ Rep S ((a : Int), c) ((S.drop a).take m) := by
        intro m m1 m2 m3
        have hlm : ((S.drop a).take m).length = m := by rw [List.length_take, List.length_drop]; omega
        refine ⟨by omega, hlm, ⟨fun h => by simp only at h; omega, fun _ => ?_⟩⟩
        simp only
        rw [hlm, Int.toNat_natCast, hS, hM]
        exact ⟨m1, by omega, by omega, rfl⟩
      by_cases e8 : x.tdiv 8 % 3 = 0
      · repeat (first | (apply G.ex (hd := rfl); case h => (first | exact Ex.move rfl | exact Ex.fieldB rfl | exact Ex.loadB rfl rfl | exact Ex.sub rfl rfl (by omega) | exact Ex.lss rfl rfl | exact Ex.lenSl rfl | exact Ex.assign rfl | exact Ex.min rfl rfl | exact Ex.quotB rfl rfl (by omega))) | refine G.nil ?_ | refine GC.seq ?_ | refine GC.region ?_ | refine GE.then_normal ?_ | refine GC.cond_yes rfl (by first | assumption | omega) ?_)
        rw [hM]
        repeat (first | fail)
        first | refine G.call (caps := []) (picked_sp (x.tdiv 8) 3 (by omega) (by omega)) rfl rfl rfl rfl (by repeat (first | exact Takes.nil | apply Takes.dup rfl | apply Takes.cons | exact Take1.here | apply Take1.there)) ?_ | refine G.callU (caps := []) (picked_sp (x.tdiv 8) 3 (by omega) (by omega)) rfl rfl rfl (by repeat (first | exact Takes.nil | apply Takes.dup rfl | apply Takes.cons | exact Take1.here | apply Take1.there)) ?_
        rintro v_ give_ ⟨rfl, rfl⟩ rs_ hrs_
        simp only [List.cons_append, List.nil_append] at hrs_
        subst hrs_
        obtain ⟨m1, m2, m3⟩ := hRepM ((M + 1) / 2) (by omega) (by omega) (by omega)
        repeat ((fail_if_success (refine GC.region (id := 23) ?_)); first | (apply G.ex (hd := rfl); case h => (first | exact Ex.move rfl | exact Ex.add rfl rfl (by omega) | exact Ex.eqI rfl rfl | exact Ex.assign rfl | exact Ex.quo rfl rfl (by omega))) | refine G.nil ?_ | refine GC.region ?_ | refine GE.then_normal ?_ | refine GC.cond_yes rfl (by first | assumption | omega) ?_)
        rw [show ((M : Int) + 1) / 2 = (((M + 1) / 2 : Nat) : Int) by omega]
        generalize (M + 1) / 2 = m at *
        repeat (first | (apply G.ex (hd := rfl); case h => (first | exact Ex.move rfl | exact Ex.fieldB rfl | exact Ex.loadB rfl rfl | exact Ex.add rfl rfl (by omega))) | refine GC.region ?_)
        rw [show (a : Int) + (m : Int) = ((a + m : Nat) : Int) by omega]
        refine G.sub (l := a) (r := (a + m)) rfl rfl (by first | exact .inl ⟨rfl, rfl⟩ | exact .inr ⟨_, _, rfl, ev_int rfl (by omega)⟩) (by first | exact .inl ⟨rfl, rfl⟩ | exact .inr ⟨_, _, rfl, ev_int rfl (by omega)⟩) (by omega) rfl (rfl) (fun q2 => ?_)
        rw [show ((flat eB S).drop (a * 1)).take ((a + m - a) * 1) = flat eB ((S.drop a).take m) by rw [flat_cutB, Nat.add_sub_cancel_left], show a + m - a = ((S.drop a).take m).length by omega]
        refine G.appNil rfl rfl (by rfl) (by omega) rfl (rfl) (fun b2 c2 => ?_)
        first | refine G.frz b2 ?_ | refine GC.frz b2 ?_ | refine GE.frz b2 ?_
        repeat (first | (apply G.ex (hd := rfl); case h => (first | exact Ex.assign rfl)) | refine G.nil ?_)
        refine GE.meet ((S.drop a).take m, b2, c2) m3 (by simp only [fits]; repeat (first | exact trivial | refine And.intro rfl ?_)) (by repeat (first | exact Takes.nil | apply Takes.dup rfl | apply Takes.cons | exact Take1.here | apply Take1.there)) (by repeat (first | exact Subs.refl | refine Subs.skip ?_))
      · repeat (first | (apply G.ex (hd := rfl); case h => (first | exact Ex.move rfl | exact Ex.fieldB rfl | exact Ex.loadB rfl rfl | exact Ex.sub rfl rfl (by omega) | exact Ex.lss rfl rfl | exact Ex.lenSl rfl | exact Ex.assign rfl | exact Ex.min rfl rfl | exact Ex.quotB rfl rfl (by omega))) | refine G.nil ?_ | refine GC.seq ?_ | refine GC.region ?_ | refine GE.then_normal ?_ | refine GC.cond_yes rfl (by first | assumption | omega) ?_)
        rw [hM]
        repeat (first | fail)
        first | refine G.call (caps := []) (picked_sp (x.tdiv 8) 3 (by omega) (by omega)) rfl rfl rfl rfl (by repeat (first | exact Takes.nil | apply Takes.dup rfl | apply Takes.cons | exact Take1.here | apply Take1.there)) ?_ | refine G.callU (caps := []) (picked_sp (x.tdiv 8) 3 (by omega) (by omega)) rfl rfl rfl (by repeat (first | exact Takes.nil | apply Takes.dup rfl | apply Takes.cons | exact Take1.here | apply Take1.there)) ?_
        rintro v_ give_ ⟨rfl, rfl⟩ rs_ hrs_
        simp only [List.cons_append, List.nil_append] at hrs_
        subst hrs_
        obtain ⟨m1, m2, m3⟩ := hRepM M (by omega) (by omega) (by omega)
        repeat (first | (apply G.ex (hd := rfl); case h => (first | exact Ex.move rfl | exact Ex.fieldB rfl | exact Ex.loadB rfl rfl | exact Ex.add rfl rfl (by omega) | exact Ex.eqI rfl rfl)) | refine G.nil ?_ | refine GC.region ?_ | refine GC.skip ?_ | refine GE.then_normal ?_ | refine GC.cond_no rfl (by first | assumption | omega) ?_)
        rw [show (a : Int) + (M : Int) = ((a + M : Nat) : Int) by omega]
        refine G.sub (l := a) (r := (a + M)) rfl rfl (by first | exact .inl ⟨rfl, rfl⟩ | exact .inr ⟨_, _, rfl, ev_int rfl (by omega)⟩) (by first | exact .inl ⟨rfl, rfl⟩ | exact .inr ⟨_, _, rfl, ev_int rfl (by omega)⟩) (by omega) rfl (rfl) (fun q2 => ?_)
        rw [show ((flat eB S).drop (a * 1)).take ((a + M - a) * 1) = flat eB ((S.drop a).take M) by rw [flat_cutB, Nat.add_sub_cancel_left], show a + M - a = ((S.drop a).take M).length by omega]
        refine G.appNil rfl rfl (by rfl) (by omega) rfl (rfl) (fun b2 c2 => ?_)
        first | refine G.frz b2 ?_ | refine GC.frz b2 ?_ | refine GE.frz b2 ?_
        repeat (first | (apply G.ex (hd := rfl); case h => (first | exact Ex.assign rfl)) | refine G.nil ?_)
        refine GE.meet ((S.drop a).take M, b2, c2) m3 (by simp only [fits]; repeat (first | exact trivial | refine And.intro rfl ?_)) (by repeat (first | exact Takes.nil | apply Takes.dup rfl | apply Takes.cons | exact Take1.here | apply Take1.there)) (by repeat (first | exact Subs.refl | refine Subs.skip ?_))
    · first | refine G.nilvec 5 1 ?_ | refine GC.nilvec 5 1 ?_
      first | refine G.frz none ?_ | refine GC.frz none ?_ | refine GE.frz none ?_
      repeat (first | (apply G.ex (hd := rfl); case h => (first | exact Ex.move rfl | exact Ex.fieldB rfl | exact Ex.loadB rfl rfl | exact Ex.lss rfl rfl | exact Ex.lenSl rfl)) | refine G.nil ?_ | refine GC.seq ?_ | refine GC.region ?_ | refine GC.skip ?_ | refine GE.then_normal ?_ | refine GC.cond_no rfl (by first | assumption | omega) ?_)
      refine GE.meet (([] : List UInt8), none, 0) ⟨fun _ => rfl, fun h => by simp only at h; omega⟩ (by simp only [fits]; repeat (first | exact trivial | refine And.intro rfl ?_)) (by repeat (first | exact Takes.nil | apply Takes.dup rfl | apply Takes.cons | exact Take1.here | apply Take1.there)) (by repeat (first | exact Subs.refl | refine Subs.skip ?_))
  rintro ⟨d, bo, bc⟩ hRep fr_ rs_ hfr_ hrs_
  simp only [List.cons_append, List.nil_append] at hfr_ hrs_
  subst hfr_ hrs_
  simp only at hRep
  have hst := hF.step hKl ((hRdef d).2 hRep)
  rw [ha0, hc0] at hst
  obtain ⟨g, hg⟩ : ∃ g : GoM, g = ⟨(a : Int), c, ⟨bo, d.length, bc, d⟩⟩ := ⟨_, rfl⟩
  have htg : toG g = ⟨(a : Int), c, d⟩ := by rw [hg]; rfl
  rw [← htg] at hst
  obtain ⟨f2, hf2⟩ : ∃ f2, f2 = (gotF f (toG g)).1 := ⟨_, rfl⟩
  obtain ⟨t2, ht2⟩ : ∃ t2, t2 = (gotF f (toG g)).2 := ⟨_, rfl⟩
  rw [← hf2, ← ht2] at hst
  have hcat1 : flat eG G0 ++ flat eG [g] = flat eG (G0 ++ [g]) := (flat_append ..).symm
  have hdl : d.length ≤ 100 := by
    by_cases h : (S.length : Int) ≤ (a : Int)
    · rw [hRep.no h]; simp
    · have := (hRep.yes (by simp only; omega)).2.1; simp only at this; omega
  have hgok : MOk g := by rw [hg]; exact ⟨rfl, by simp only; omega, by simp only; omega, by simp only; omega⟩
  repeat (first | (apply G.ex (hd := rfl); case h => (first | exact Ex.move rfl | exact Ex.fieldB rfl | exact Ex.loadB rfl rfl | exact Ex.build rfl rfl)) | refine GC.seq ?_ | refine GC.region ?_ | refine GE.then_normal ?_)
  refine G.lit (cells := flat eG [(⟨(a : Int), c, ⟨bo, d.length, bc, d⟩⟩ : GoM)]) rfl (by rfl) (by rfl) (by rfl) (by rfl) (by rfl) (by rfl) rfl (fun q4 => ?_)
  rw [← hg]
  refine G.app rfl rfl (by rfl) (by omega) rfl (hcat1) (fun og2 ogc2 rs_ hrs_ => ?_)
  try simp only at hrs_
  subst hrs_
  refine G.conv (fun w_ H_ => Holds.rdSnoc (x := ⟨bo, d.length, bc, d⟩) (H_.take (need := [.sl bo d.length bc 1 (flat eB d), .per (Rd eB 1 (G0.map (·.d)))]) (by repeat (first | exact Takes.nil | apply Takes.dup rfl | apply Takes.cons | exact Take1.here | apply Take1.there)))) ?_
  try simp only [List.append_eq, List.nil_append, List.cons_append]
  rw [show G0.map (·.d) ++ [⟨bo, d.length, bc, d⟩] = (G0 ++ [g]).map (·.d) by rw [List.map_append, hg]; rfl]
  first | refine G.frz ow ?_ | refine GC.frz ow ?_ | refine GE.frz ow ?_
  refine G.len (m := f.out.length) (c := oc) ow fun ⟨_, u1, u2⟩ => ?_
  refine G.conv (fun w_ H_ => Holds.slSub 0 K (Nat.zero_le _) (Nat.le_of_lt hKl) (H_.take (need := [.sl ow f.out.length oc 2 (flat eW f.out)]) (by repeat (first | exact Takes.nil | apply Takes.dup rfl | apply Takes.cons | exact Take1.here | apply Take1.there)))) ?_
  try simp only [List.append_eq, List.nil_append, List.cons_append]
  refine G.conv (fun w_ H_ => Holds.slSub (K + 1) f.out.length (by omega) (Nat.le_refl _) (H_.take (need := [.sl ow f.out.length oc 2 (flat eW f.out)]) (by repeat (first | exact Takes.nil | apply Takes.dup rfl | apply Takes.cons | exact Take1.here | apply Take1.there)))) ?_
  try simp only [List.append_eq, List.nil_append, List.cons_append]
  rw [flat_cutW, flat_cutW]
  have hcat2 : flat eW ((f.out.drop 0).take (K - 0)) ++ flat eW ((f.out.drop (K + 1)).take (f.out.length - (K + 1))) = flat eW (f.out.eraseIdx K) := by
    have ht : (f.out.drop (K + 1)).take (f.out.length - (K + 1)) = f.out.drop (K + 1) := List.take_of_length_le (by rw [List.length_drop]; omega)
    rw [ht, ← flat_append, List.drop_zero, Nat.sub_zero, List.eraseIdx_eq_take_drop_succ]
  have hel : (f.out.eraseIdx K).length = f.out.length - 1 := List.length_eraseIdx_of_lt hKl
  repeat (first | (apply G.ex (hd := rfl); case h => (first | exact Ex.assign rfl)) | refine G.nil ?_ | refine GC.seq ?_ | refine GE.then_normal ?_)
  refine GC.drawA [] [] (by repeat (first | exact Takes.nil | apply Takes.dup rfl | apply Takes.cons | exact Take1.here | apply Take1.there)) (by kernel_rfl) ?_
  first | (apply GA.take [] (hD := .inl rfl) (hsub := ⟨_, Takes.nil⟩) (i := 0) (hi := rfl) (hs := by kernel_rfl) (hfr := by kernel_rfl) (hr := by kernel_rfl) (hQ := (by repeat (first | exact NoPanic.np | exact NoPanic.fpost | apply NoPanic.then_ | apply NoPanic.block))) (hd := rfl); case hx => (first | exact Ex.move rfl))
  first | (apply GA.take [] (hD := .inl rfl) (hsub := ⟨_, Takes.nil⟩) (i := 1) (hi := rfl) (hs := by kernel_rfl) (hfr := by kernel_rfl) (hr := by kernel_rfl) (hQ := (by repeat (first | exact NoPanic.np | exact NoPanic.fpost | apply NoPanic.then_ | apply NoPanic.block))) (hd := rfl); case hx => (first | exact Ex.move rfl))
  first | (apply GA.take [] (hD := .inl rfl) (hsub := ⟨_, Takes.nil⟩) (i := 4) (hi := rfl) (hs := by kernel_rfl) (hfr := by kernel_rfl) (hr := by kernel_rfl) (hQ := (by repeat (first | exact NoPanic.np | exact NoPanic.fpost | apply NoPanic.then_ | apply NoPanic.block))) (hd := rfl); case hx => (first | exact Ex.move rfl))
  first | (apply GA.take [] (hD := .inl rfl) (hsub := ⟨_, Takes.nil⟩) (i := 5) (hi := rfl) (hs := by kernel_rfl) (hfr := by kernel_rfl) (hr := by kernel_rfl) (hQ := (by repeat (first | exact NoPanic.np | exact NoPanic.fpost | apply NoPanic.then_ | apply NoPanic.block))) (hd := rfl); case hx => (first | exact Ex.move rfl))
  first | (apply GA.take [] (hD := .inl rfl) (hsub := ⟨_, Takes.nil⟩) (i := 6) (hi := rfl) (hs := by kernel_rfl) (hfr := by kernel_rfl) (hr := by kernel_rfl) (hQ := (by repeat (first | exact NoPanic.np | exact NoPanic.fpost | apply NoPanic.then_ | apply NoPanic.block))) (hd := rfl); case hx => (first | exact Ex.add rfl rfl (by omega)))
  apply GA.take [] (hD := .inl rfl) (hsub := ⟨_, Takes.nil⟩) (i := 2) (hi := rfl) (hs := by kernel_rfl) (hfr := by kernel_rfl) (hr := by kernel_rfl) (hQ := (by repeat (first | exact NoPanic.np | exact NoPanic.fpost | apply NoPanic.then_ | apply NoPanic.block))) (hd := rfl) (hx := (Ex.slHi (r := K) rfl rfl (by omega)))
  apply GA.take [] (hD := .inl rfl) (hsub := ⟨_, Takes.nil⟩) (i := 7) (hi := rfl) (hs := by kernel_rfl) (hfr := by kernel_rfl) (hr := by kernel_rfl) (hQ := (by repeat (first | exact NoPanic.np | exact NoPanic.fpost | apply NoPanic.then_ | apply NoPanic.block))) (hd := rfl) (hx := (Ex.slLo (m := f.out.length) (l := K + 1) rfl rfl (by omega)))
  refine GA.one (i := 3) (by kernel_rfl) rfl ?_
  refine G.appNil rfl rfl (by rfl) (by omega) rfl (rfl) (fun o3 c3 => ?_)
  try refine G.nil ?_
  refine GA.back (by first | exact .inl (by decide) | exact .inr ⟨_, (by repeat (first | exact Takes.nil | apply Takes.dup rfl | apply Takes.cons | exact Take1.here | apply Take1.there))⟩) ?_
  refine GA.one (i := 8) (by kernel_rfl) rfl ?_
  refine G.app rfl rfl (by rfl) (by omega) rfl (hcat2) (fun o4 c4 rs_ hrs_ => ?_)
  try simp only at hrs_
  subst hrs_
  try refine G.nil ?_
  refine GA.back (by first | exact .inl (by decide) | exact .inr ⟨_, (by repeat (first | exact Takes.nil | apply Takes.dup rfl | apply Takes.cons | exact Take1.here | apply Take1.there))⟩) ?_
  first | (apply GA.take [] (hD := .inl rfl) (hsub := ⟨_, Takes.nil⟩) (i := 9) (hi := rfl) (hs := by kernel_rfl) (hfr := by kernel_rfl) (hr := by kernel_rfl) (hQ := (by repeat (first | exact NoPanic.np | exact NoPanic.fpost | apply NoPanic.then_ | apply NoPanic.block))) (hd := rfl); case hx => (first | exact Ex.assign rfl))
  refine GA.done (by kernel_rfl) ?_
  rw [show K - 0 + (f.out.length - (K + 1)) = (f.out.eraseIdx K).length by omega]
  obtain ⟨E, hE⟩ : ∃ E, E = f.out.eraseIdx K := ⟨_, rfl⟩
  have hout2 := hst.out
  rw [← hE] at hel hout2 ⊢
  obtain ⟨G1, hG1⟩ : ∃ G1, G1 = G0 ++ [g] := ⟨_, rfl⟩
  rw [← hG1]
  have hG1l : G1.length = i + 1 := by rw [hG1, List.length_append, hGl]; rfl
  have hG1ok : ∀ m ∈ G1, MOk m := fun m hm => by
    rw [hG1] at hm
    rcases List.mem_append.1 hm with hm | hm
    · exact hG m hm
    · obtain rfl := List.mem_singleton.1 hm; exact hgok
  have hend2 : ends f1 (G1.map toG) = f2 := by rw [hG1, List.map_append, ends_app, hend, hf2]; rfl
  repeat (first | (apply G.ex (hd := rfl); case h => (first | exact Ex.move rfl)) | refine GC.seq ?_ | refine GC.region ?_ | refine GE.then_normal ?_)
  refine G.appNil rfl rfl (by rfl) (by omega) rfl (rfl) (fun o5 c5 => ?_)
  repeat (first | fail)
  first | refine G.call (caps := []) (play_sp (.vec 32 3 o5 (i + 1) c5 (flat eG G1)) o5 (i + 1) c5 G1 hG1l (by omega) hG1ok) rfl rfl rfl rfl (by repeat (first | exact Takes.nil | apply Takes.dup rfl | apply Takes.cons | exact Take1.here | apply Take1.there)) ?_ | refine G.callU (caps := []) (play_sp (.vec 32 3 o5 (i + 1) c5 (flat eG G1)) o5 (i + 1) c5 G1 hG1l (by omega) hG1ok) rfl rfl rfl (by repeat (first | exact Takes.nil | apply Takes.dup rfl | apply Takes.cons | exact Take1.here | apply Take1.there)) ?_
  rintro v_ give_ ⟨T, o, oc2, hT, rfl, rfl⟩ rs_ hrs_
  simp only [List.cons_append, List.nil_append] at hrs_
  subst hrs_
  have hTc : T.map (·.t) = (onF newF []).2 :: runs f1 (G1.map toG) := by rw [hT, hf1]; rfl
  have hTl : T.length = i + 2 := by
    have := congrArg List.length hTc
    rw [List.length_map, List.length_cons, runs_len, List.length_map, hG1l] at this
    exact this
  have hTt : (T.getD (i + 1) default).t = t2 := by
    rw [← getD_mapT (fun x : NeM => x.t) T (i + 1) (by omega), hTc, List.getD_eq_getElem?_getD, List.getElem?_cons_succ, ← List.getD_eq_getElem?_getD]
    have h1 := (runs_at (G1.map toG) f1 i (by rw [List.length_map]; omega)).1
    rw [h1, hG1, List.map_append, ht2]
    have h2 : (G0.map toG ++ [toG g]).take i = G0.map toG := by rw [← hGl, ← List.length_map (f := toG), List.take_left]
    have h3 : (G0.map toG ++ [toG g]).getD i default = toG g := by
      rw [List.getD_eq_getElem?_getD, List.getElem?_append_right (by rw [List.length_map]; omega), List.length_map, hGl, Nat.sub_self]; rfl
    rw [show G0.map toG ++ [g].map toG = G0.map toG ++ [toG g] from rfl, h2, h3, hend]
  have hTlt : i + 1 < T.length := by omega
  refine G.conv (fun w_ H_ => H_.rdAt (l := T.map wF) (enc := eW) (s := 2) (by simp) (i + 1) (by rw [List.length_map]; omega)) ?_
  refine G.conv (fun w_ H_ => H_.rdAt (l := T.map xF) (enc := eB) (s := 1) (by simp) (i + 1) (by rw [List.length_map]; omega)) ?_
  rw [getD_mapT wF T (i + 1) hTlt, getD_mapT xF T (i + 1) hTlt]
  simp only [wF, xF]
  have e9 : ¬ ¬ ((i + 1 + 1 : Nat) : Int) = ((i + 1 : Nat) : Int) + 1 := fun h => h (by omega)
  repeat (first | (apply G.ex (hd := rfl); case h => (first | exact Ex.move rfl | exact Ex.add rfl rfl (by omega) | exact Ex.sub rfl rfl (by omega) | exact Ex.neI rfl rfl | exact Ex.lenSl rfl | exact Ex.extract rfl rfl | exact Ex.assign rfl | exact Ex.pickF rfl (by first | assumption | omega) rfl | exact Ex.loadTA rfl (by first | omega | (simp; done) | (simp; omega)) | exact Ex.indexI rfl rfl (by omega))) | refine G.g_ff rfl rfl (by first | assumption | omega) ?_ | refine G.nil ?_ | refine GC.seq ?_ | refine GC.region ?_ | refine GC.skip ?_ | refine GE.then_normal ?_ | refine GC.cond_no rfl (by first | assumption | omega) ?_)
  refine G.alloc rfl (fun nb => ?_)
  obtain ⟨nW, hnW⟩ : ∃ m, m = T.getD (i + 1) default := ⟨_, rfl⟩
  rw [← hnW] at hTt ⊢
  repeat ((fail_if_success (refine GC.region (id := 30) ?_)); first | refine G.storeBA rfl rfl rfl rfl rfl ?_ | refine G.nil ?_ | refine GC.seq ?_ | refine GE.then_normal ?_)
  refine GC.reblk [.int .i64 0, .slice nW.wo t2.wants.length nW.wc, .bool t2.done, .slice nW.xo t2.data.length nW.xc] (by rw [show (((i + 1 + 1 : Nat) : Int) - 1).toNat = i + 1 by omega, ← hnW, ← hTt]; show eN nW = _; unfold eN; rw [show nW.t.code = 0 by rw [hTt]; exact hst.code]) ?_
  rw [hTt]
  have hok2 := hst.inv.ok
  have hol2 := hok2.len
  have hsum : f2.out.length = E.length + t2.wants.length := by rw [hout2, List.length_append]
  repeat (first | (apply G.ex (hd := rfl); case h => (first | exact Ex.fieldB rfl | exact Ex.loadB rfl rfl | exact Ex.neI rfl rfl | exact Ex.assign rfl)) | refine G.nil ?_ | refine GC.seq ?_ | refine GC.region ?_ | refine GC.block ?_ | refine GC.skip ?_ | refine GE.then_normal ?_ | refine GC.cond_no rfl (by first | assumption | omega) ?_)
  rw [show flat eW E = flat eW (E ++ t2.wants.take 0) by simp]
  refine GC.conv (rs' := [.blk nb 39 [.int .i64 0, .slice nW.wo t2.wants.length nW.wc, .bool t2.done, .slice nW.xo t2.data.length nW.xc], .vec 42 2 o4 E.length c4 (flat eW (E ++ t2.wants.take 0)), .vec 32 3 og2 (i + 1) ogc2 (flat eG G1), .per (Rd eB 1 (G1.map (·.d))), .sl nW.wo t2.wants.length nW.wc 2 (flat eW t2.wants), .sl nW.xo t2.data.length nW.xc 1 (flat eB t2.data), .sl so n sc 1 (flat eB S), .sl ao len cap 1 (flat (eI .i64) z), .per (Rd eB 1 (([] : List GoM).map (·.d))), .sl so n sc 1 (flat eB S), .sl ao len cap 1 (flat (eI .i64) z)] ++ rest) (fun w_ H_ => ?_) ?_
  · have h_ := H_.take (need := [.blk nb 39 [.int .i64 0, .slice nW.wo t2.wants.length nW.wc, .bool t2.done, .slice nW.xo t2.data.length nW.xc], .vec 42 2 o4 E.length c4 (flat eW (E ++ t2.wants.take 0)), .vec 32 3 og2 (i + 1) ogc2 (flat eG G1), .per (Rd eB 1 (G1.map (·.d))), .sl nW.wo t2.wants.length nW.wc 2 (flat eW t2.wants), .sl nW.xo t2.data.length nW.xc 1 (flat eB t2.data), .sl so n sc 1 (flat eB S), .sl ao len cap 1 (flat (eI .i64) z), .per (Rd eB 1 (([] : List GoM).map (·.d))), .sl so n sc 1 (flat eB S), .sl ao len cap 1 (flat (eI .i64) z)]) (by repeat (first | exact Takes.nil | apply Takes.dup rfl | apply Takes.cons | exact Take1.here | apply Take1.there))
    exact subs_app (by repeat (first | exact Subs.refl | refine Subs.skip ?_)) h_
  try simp only [List.append_eq, List.nil_append, List.cons_append]
  refine GC.loop (ι := Nat × Option Addr × Nat) (fun x => x.1 ≤ t2.wants.length) (fun x => t2.wants.length - x.1) (fun x => [(0, .slice so n sc), (1, .slice ao len cap), (6, .slice og2 (i + 1) ogc2), (9, .slice x.2.1 (E.length + x.1) x.2.2), (10, .int .i64 (i : Int)), (16, .pointer (some (badr nb 0))), (17, .int .i64 (x.1 : Int))]) (fun x => [.blk nb 39 [.int .i64 0, .slice nW.wo t2.wants.length nW.wc, .bool t2.done, .slice nW.xo t2.data.length nW.xc], .vec 42 2 x.2.1 (E.length + x.1) x.2.2 (flat eW (E ++ t2.wants.take x.1)), .vec 32 3 og2 (i + 1) ogc2 (flat eG G1), .per (Rd eB 1 (G1.map (·.d))), .sl nW.wo t2.wants.length nW.wc 2 (flat eW t2.wants), .sl nW.xo t2.data.length nW.xc 1 (flat eB t2.data), .sl so n sc 1 (flat eB S), .sl ao len cap 1 (flat (eI .i64) z)]) (0, o4, c4) (Nat.zero_le _) (by simp only [fits]; repeat (first | exact trivial | refine And.intro rfl ?_)) (by repeat (first | exact Takes.nil | apply Takes.dup rfl | apply Takes.cons | exact Take1.here | apply Take1.there)) ?_
  rintro ⟨j, ov, vc⟩ hj fr_ rs_ hfr_ hrs_
  simp only [List.cons_append, List.nil_append] at hfr_ hrs_
  subst hfr_ hrs_
  have hj' : j ≤ t2.wants.length := hj
  by_cases hjl : (j : Int) < (t2.wants.length : Int)
  · obtain ⟨V, hV⟩ : ∃ V, V = E ++ t2.wants.take j := ⟨_, rfl⟩
    have hVl : V.length = E.length + j := by rw [hV, List.length_append, List.length_take]; omega
    have hVat : ∀ q, q < E.length + j → V.getD q default = f2.out.getD q default := by
      intro q hq
      rw [hV, hout2, List.getD_eq_getElem?_getD, List.getD_eq_getElem?_getD]
      by_cases hqE : q < E.length
      · rw [List.getElem?_append_left hqE, List.getElem?_append_left hqE]
      · rw [List.getElem?_append_right (by omega), List.getElem?_append_right (by omega), List.getElem?_take, if_pos (by omega)]
    have hWat : t2.wants.getD j default = f2.out.getD (E.length + j) default := by
      rw [hout2, List.getD_eq_getElem?_getD, List.getD_eq_getElem?_getD, List.getElem?_append_right (by omega), Nat.add_sub_cancel_left]
    have hwj := hok2.w _ (getD_mem1 f2.out (E.length + j) (by omega))
    rw [← hWat] at hwj
    rw [← hV]
    repeat (first | (apply G.ex (hd := rfl); case h => (first | exact Ex.move rfl | exact Ex.fieldB rfl | exact Ex.loadB rfl rfl | exact Ex.lss rfl rfl | exact Ex.lenSl rfl | exact Ex.assign rfl)) | refine G.nil ?_ | refine GC.seq ?_ | refine GC.region ?_ | refine GC.block ?_ | refine GC.skip ?_ | refine GE.then_normal ?_ | refine GC.cond_yes rfl (by first | assumption | omega) ?_)
    refine GC.loop (ι := Nat) (fun q => q ≤ E.length + j) (fun q => E.length + j - q) (fun q => [(0, .slice so n sc), (1, .slice ao len cap), (6, .slice og2 (i + 1) ogc2), (9, .slice ov (E.length + j) vc), (10, .int .i64 (i : Int)), (16, .pointer (some (badr nb 0))), (17, .int .i64 (j : Int)), (18, .int .i64 (q : Int))]) (fun q => [.blk nb 39 [.int .i64 0, .slice nW.wo t2.wants.length nW.wc, .bool t2.done, .slice nW.xo t2.data.length nW.xc], .vec 42 2 ov (E.length + j) vc (flat eW V), .vec 32 3 og2 (i + 1) ogc2 (flat eG G1), .per (Rd eB 1 (G1.map (·.d))), .sl nW.wo t2.wants.length nW.wc 2 (flat eW t2.wants), .sl nW.xo t2.data.length nW.xc 1 (flat eB t2.data), .sl so n sc 1 (flat eB S), .sl ao len cap 1 (flat (eI .i64) z)]) 0 (Nat.zero_le _) (by simp only [fits]; repeat (first | exact trivial | refine And.intro rfl ?_)) (by repeat (first | exact Takes.nil | apply Takes.dup rfl | apply Takes.cons | exact Take1.here | apply Take1.there)) ?_
    rintro q hq fr_ rs_ hfr_ hrs_
    simp only [List.cons_append, List.nil_append] at hfr_ hrs_
    subst hfr_ hrs_
    have hq' : q ≤ E.length + j := hq
    by_cases hql : (q : Int) < ((E.length + j : Nat) : Int)
    · have hvq := hok2.w _ (getD_mem1 f2.out q (by omega))
      have hd2 := List.pairwise_iff_getElem.1 hst.inv.dis q (E.length + j) (by omega) (by omega) (by omega)
      have e1 : f2.out.getD q default = f2.out[q]'(by omega) := by rw [List.getD_eq_getElem?_getD, List.getElem?_eq_getElem (by omega)]; rfl
      have e2 : f2.out.getD (E.length + j) default = f2.out[E.length + j]'(by omega) := by rw [List.getD_eq_getElem?_getD, List.getElem?_eq_getElem (by omega)]; rfl
      rw [← e1, ← e2, ← hWat, ← hVat q (by omega)] at hd2
      rw [← hVat q (by omega)] at hvq
      by_cases hA : (t2.wants.getD j default).1 < (V.getD q default).1 + (V.getD q default).2
      · have hB : ¬ (V.getD q default).1 < (t2.wants.getD j default).1 + (t2.wants.getD j default).2 := by omega
        repeat (first | (apply G.ex (hd := rfl); case h => (first | exact Ex.move rfl | exact Ex.add rfl rfl (by omega) | exact Ex.lss rfl rfl | exact Ex.lenSl rfl | exact Ex.assign rfl)) | refine G.nil ?_ | (apply Gq.ex (hd := rfl); case h => (first | exact Ex.move rfl | exact Ex.fieldE rfl | exact Ex.fieldB rfl | exact Ex.loadB rfl rfl | exact Ex.add rfl rfl (by omega) | exact Ex.lss rfl rfl | exact Ex.indexN rfl rfl (by first | omega | (simp; done) | (simp; omega)) | exact Ex.loadT0 rfl (by first | omega | (simp; done) | (simp; omega)) rfl | exact Ex.loadT rfl (by first | omega | (simp; done) | (simp; omega)) rfl | exact Ex.pickT rfl (by first | assumption | omega) rfl)) | refine Gq.g_tt rfl rfl (by first | assumption | omega) ?_ | refine Gq.nil ?_ | refine GC.seq ?_ | refine GC.region ?_ | refine GC.draw (by kernel_rfl) (by kernel_rfl) ?_ | refine GC.block ?_ | refine GC.skip ?_ | refine GE.then_normal ?_ | refine GE.block_normal ?_ | refine GC.cond_yes rfl (by first | assumption | omega) ?_ | refine GC.cond_no rfl (by first | assumption | omega) ?_)
        refine GE.loop (q + 1) (by omega : q + 1 ≤ E.length + j) (by omega) (by simp only [fits]; repeat (first | exact trivial | refine And.intro rfl ?_)) (by repeat (first | exact Takes.nil | apply Takes.dup rfl | apply Takes.cons | exact Take1.here | apply Take1.there)) (by repeat (first | exact Subs.refl | refine Subs.skip ?_))
      · repeat (first | (apply G.ex (hd := rfl); case h => (first | exact Ex.move rfl | exact Ex.add rfl rfl (by omega) | exact Ex.lss rfl rfl | exact Ex.lenSl rfl | exact Ex.assign rfl)) | refine G.nil ?_ | (apply Gq.ex (hd := rfl); case h => (first | exact Ex.move rfl | exact Ex.fieldE rfl | exact Ex.fieldB rfl | exact Ex.loadB rfl rfl | exact Ex.add rfl rfl (by omega) | exact Ex.lss rfl rfl | exact Ex.indexN rfl rfl (by first | omega | (simp; done) | (simp; omega)) | exact Ex.loadT0 rfl (by first | omega | (simp; done) | (simp; omega)) rfl | exact Ex.loadT rfl (by first | omega | (simp; done) | (simp; omega)) rfl | exact Ex.pickF rfl (by first | assumption | omega) rfl)) | refine Gq.g_tf rfl rfl (by first | assumption | omega) rfl ?_ | refine Gq.nil ?_ | refine GC.seq ?_ | refine GC.region ?_ | refine GC.draw (by kernel_rfl) (by kernel_rfl) ?_ | refine GC.block ?_ | refine GC.skip ?_ | refine GE.then_normal ?_ | refine GE.block_normal ?_ | refine GC.cond_yes rfl (by first | assumption | omega) ?_ | refine GC.cond_f rfl ?_)
        refine GE.loop (q + 1) (by omega : q + 1 ≤ E.length + j) (by omega) (by simp only [fits]; repeat (first | exact trivial | refine And.intro rfl ?_)) (by repeat (first | exact Takes.nil | apply Takes.dup rfl | apply Takes.cons | exact Take1.here | apply Take1.there)) (by repeat (first | exact Subs.refl | refine Subs.skip ?_))
    · have hcat5 : flat eW V ++ flat eW [t2.wants.getD j default] = flat eW (E ++ t2.wants.take (j + 1)) := by
        rw [take_snocF t2.wants j (by omega), ← List.append_assoc, ← hV]; exact (flat_append ..).symm
      repeat (first | (apply G.ex (hd := rfl); case h => (first | exact Ex.move rfl | exact Ex.fieldB rfl | exact Ex.loadB rfl rfl | exact Ex.lss rfl rfl | exact Ex.lenSl rfl | exact Ex.indexN rfl rfl (by first | omega | (simp; done) | (simp; omega)) | exact Ex.loadTA rfl (by first | omega | (simp; done) | (simp; omega)))) | refine G.nil ?_ | refine GC.seq ?_ | refine GC.region ?_ | refine GC.exit ?_ | refine GE.then_normal ?_ | refine GE.then_exit ?_ | refine GE.block_hit ?_ | refine GC.cond_no rfl (by first | assumption | omega) ?_)
      refine G.lit (cells := flat eW [t2.wants.getD j default]) rfl (by rfl) (by rfl) (by rfl) (by rfl) (by rfl) (by rfl) rfl (fun q9 => ?_)
      refine G.app rfl rfl (by rfl) (by omega) rfl (hcat5) (fun o8 c8 rs_ hrs_ => ?_)
      try simp only at hrs_
      subst hrs_
      repeat (first | (apply G.ex (hd := rfl); case h => (first | exact Ex.move rfl | exact Ex.add rfl rfl (by omega) | exact Ex.assign rfl)) | refine G.nil ?_ | refine GC.region ?_ | refine GE.then_normal ?_ | refine GE.block_normal ?_)
      refine GE.loop (j + 1, o8, c8) (by simp only; omega) (by simp only; omega) (by simp only [fits]; repeat (first | exact trivial | refine And.intro rfl ?_)) (by repeat (first | exact Takes.nil | apply Takes.dup rfl | apply Takes.cons | exact Take1.here | apply Take1.there)) (by repeat (first | exact Subs.refl | refine Subs.skip ?_))
  · have hjeq : j = t2.wants.length := by omega
    have hVe : E ++ t2.wants.take j = f2.out := by rw [hout2, hjeq, List.take_length]
    have hlen : E.length + j = f2.out.length := by omega
    rw [hVe, hlen]
    by_cases hdn : t2.done = true
    · have hdata : t2.data = S := by rw [hst.data hdn]; exact hst.inv.file (by rw [← hst.done]; exact hdn)
      rw [hdn, hdata, hS]
      repeat (first | (apply G.ex (hd := rfl); case h => (first | exact Ex.move rfl | exact Ex.fieldB rfl | exact Ex.loadB rfl rfl | exact Ex.lss rfl rfl | exact Ex.lenSl rfl | exact Ex.assign rfl)) | refine G.nil ?_ | refine GC.seq ?_ | refine GC.region ?_ | refine GC.ret ?_ | refine GC.exit ?_ | refine GE.then_normal ?_ | refine GE.then_ret ?_ | refine GE.then_exit ?_ | refine GE.block_ret ?_ | refine GE.block_hit ?_ | refine GC.cond_no rfl (by first | assumption | omega) ?_ | refine GC.cond_t rfl ?_)
      refine GE.ret (by first | exact .inl rfl | exact .inr rfl) (by first | exact res0 Try.results7 | exact res1 Try.results7 rfl | exact res2 Try.results7 rfl rfl | exact resR1 Try.results7 (by first | exact RV.tmp rfl | exact RV.cell rfl (eP_len _) | exact RV.cell rfl rfl | exact RV.cell1 rfl) | exact resR2 Try.results7 (by first | exact RV.tmp rfl | exact RV.cell rfl (eP_len _) | exact RV.cell rfl rfl | exact RV.cell1 rfl) (by first | exact RV.tmp rfl | exact RV.cell rfl (eP_len _) | exact RV.cell rfl rfl | exact RV.cell1 rfl) | exact resR3 Try.results7 (by first | exact RV.tmp rfl | exact RV.cell rfl (eP_len _) | exact RV.cell rfl rfl | exact RV.cell1 rfl) (by first | exact RV.tmp rfl | exact RV.cell rfl (eP_len _) | exact RV.cell rfl rfl | exact RV.cell1 rfl) (by first | exact RV.tmp rfl | exact RV.cell rfl (eP_len _) | exact RV.cell rfl rfl | exact RV.cell1 rfl)) ⟨nW.xo, nW.xc, rfl, rfl⟩ (by repeat (first | exact Takes.nil | apply Takes.dup rfl | apply Takes.cons | exact Take1.here | apply Take1.there)) (by repeat (first | exact Subs.refl | refine Subs.skip ?_))
    · have hdf : t2.done = false := by revert hdn; cases t2.done <;> simp
      have hfin2 : fin f2 = false := by rw [← hst.done]; exact hdf
      have hnx : (i + 1) + Phi S.length f2 ≤ 168 := by have := hst.phi; omega
      rw [hdf]
      repeat (first | (apply G.ex (hd := rfl); case h => (first | exact Ex.move rfl | exact Ex.fieldB rfl | exact Ex.loadB rfl rfl | exact Ex.add rfl rfl (by omega) | exact Ex.lss rfl rfl | exact Ex.lenSl rfl | exact Ex.assign rfl)) | refine G.nil ?_ | refine GC.seq ?_ | refine GC.region ?_ | refine GC.skip ?_ | refine GC.exit ?_ | refine GE.then_normal ?_ | refine GE.then_exit ?_ | refine GE.block_normal ?_ | refine GE.block_hit ?_ | refine GC.cond_no rfl (by first | assumption | omega) ?_ | refine GC.cond_f rfl ?_)
      refine GE.loop (i + 1, f2, (G1, og2, ogc2), (ov, vc)) ⟨hnx, hst.inv, hst.stop, hfin2, hG1l, hG1ok, hend2⟩ (by simp only; omega) (by simp only [fits]; repeat (first | exact trivial | refine And.intro rfl ?_)) (by repeat (first | exact Takes.nil | apply Takes.dup rfl | apply Takes.cons | exact Take1.here | apply Take1.there)) (by repeat (first | exact Subs.refl | refine Subs.skip ?_))
end fetch
end Go.Proofs.Ytpeidlaejjfmeaa
