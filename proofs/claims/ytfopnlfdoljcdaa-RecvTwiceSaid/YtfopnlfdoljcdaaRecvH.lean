/-
  CONTRACT of packthreadkeep.hearer, by the kit.
-/
import Derived.Test.YtfopnlfdoljcdaaRecvG
namespace Go.Proofs.Ytfopnlfdoljcdaa
open Go.RowKit
attribute [local irreducible] Ex G GC GE Gq FPost LPost
set_option linter.unusedVariables false
set_option linter.unusedSimpArgs false
namespace recv
open hole
theorem one_ok : RunOk (newF 9) [.arr 0 [5] false, .take 3] :=
  ⟨⟨by decide, by decide, by decide, fun h => absurd h.1 (by decide), fun h => nomatch h.1⟩, ⟨by decide, by decide⟩, trivial⟩
theorem one_runs : ((runs (newF 9) [.arr 0 [5] false, .take 3]).getD 1 default).data = [5] := by rfl
set_option maxHeartbeats 4000000 in
theorem hearer_sp (room : Int) (hr : 1 ≤ room ∧ room ≤ 4096) (r : Res) (ao : Option Addr) (n c : Nat) (L : List ArM) (hl : L.length = n) (hn : n ≤ 300) [hR : RdR r ao n c 5 (flat eAr L)] (hL : ∀ m ∈ L, MOk m) (hok : RunOk (newF room) (L.map toAr)) :
    Spec Try.prog 13 [.int .i64 room, .slice ao n c] [r, .per (Rd eB 1 (L.map (·.d)))] fun v give => ∃ (T : List ToM) (o : Option Addr) (oc : Nat), T.map (·.t) = runs (newF room) (L.map toAr) ∧ v = .tuple #[.slice o n oc, .bool true] ∧ give = [.vec 42 6 o n oc (flat eTo T), .per (Rd eR 2 (T.map soF)), .per (Rd eB 1 (T.map xoF)), r, .per (Rd eB 1 (L.map (·.d)))] := by
  refine Spec.intro Try.func13 rfl Try.ntmps13 rfl fun w0 rest rs_ hrs_ => ?_
  simp only [List.cons_append, List.nil_append] at hrs_
  subst hrs_
  repeat (first | (apply G.ex (hd := rfl); case h => (first | exact Ex.move rfl | exact Ex.assign rfl)) | refine G.nil ?_ | refine GC.seq ?_ | refine GC.region ?_ | refine GE.then_normal ?_)
  refine G.appNil rfl rfl (by rfl) (by omega) rfl (rfl) (fun a2 c2 => ?_)
  first | refine G.call (caps := []) (play_sp room hr (.vec 46 5 a2 n c2 (flat eAr L)) a2 n c2 L hl hn hL hok) rfl rfl rfl rfl (by repeat (first | exact Takes.nil | apply Takes.dup rfl | apply Takes.cons | exact Take1.here | apply Take1.there)) ?_ | refine G.callU (caps := []) (play_sp room hr (.vec 46 5 a2 n c2 (flat eAr L)) a2 n c2 L hl hn hL hok) rfl rfl rfl (by repeat (first | exact Takes.nil | apply Takes.dup rfl | apply Takes.cons | exact Take1.here | apply Take1.there)) ?_
  rintro v_ give_ ⟨T, o, oc, hT, rfl, rfl⟩ rs_ hrs_
  simp only [List.cons_append, List.nil_append] at hrs_
  subst hrs_
  repeat (first | (apply G.ex (hd := rfl); case h => (first | exact Ex.move rfl | exact Ex.extract rfl rfl | exact Ex.assign rfl)) | refine G.nil ?_ | refine GC.seq ?_ | refine GC.region ?_ | refine GE.then_normal ?_)
  refine G.lit (cells := flat eB [5]) rfl (by rfl) (by rfl) (by rfl) (by rfl) (by rfl) (by rfl) rfl (fun q1 => ?_)
  repeat (first | (apply G.ex (hd := rfl); case h => (first | exact Ex.build rfl rfl)))
  refine G.lit (cells := flat eAr [(⟨1, 0, ⟨q1, 1, 1, [5]⟩, false, 0⟩ : ArM), ⟨2, 0, ⟨none, 0, 0, []⟩, false, 3⟩]) rfl (by rfl) (by rfl) (by rfl) (by rfl) (by rfl) (by rfl) rfl (fun q2 => ?_)
  first | refine G.frz q1 ?_ | refine GC.frz q1 ?_ | refine GE.frz q1 ?_
  first | refine G.nilvec 5 1 ?_ | refine GC.nilvec 5 1 ?_
  first | refine G.frz none ?_ | refine GC.frz none ?_ | refine GE.frz none ?_
  refine G.conv (fun w_ H_ => Holds.rdNil eB 1 H_) ?_
  refine G.conv (fun w_ H_ => Holds.rdSnoc (x := ⟨q1, 1, 1, [5]⟩) (H_.take (need := [.sl q1 1 1 1 (flat eB [5]), .per (Rd eB 1 [])]) (by repeat (first | exact Takes.nil | apply Takes.dup rfl | apply Takes.cons | exact Take1.here | apply Take1.there)))) ?_
  try simp only [List.append_eq, List.nil_append, List.cons_append]
  refine G.conv (fun w_ H_ => Holds.rdSnoc (x := ⟨none, 0, 0, []⟩) (H_.take (need := [.sl none 0 0 1 [], .per (Rd eB 1 ([] ++ [⟨q1, 1, 1, [5]⟩]))]) (by repeat (first | exact Takes.nil | apply Takes.dup rfl | apply Takes.cons | exact Take1.here | apply Take1.there)))) ?_
  try simp only [List.append_eq, List.nil_append, List.cons_append]
  first | refine G.call (caps := []) (play_sp 9 (by decide) (.vec 46 5 q2 2 2 (flat eAr [(⟨1, 0, ⟨q1, 1, 1, [5]⟩, false, 0⟩ : ArM), ⟨2, 0, ⟨none, 0, 0, []⟩, false, 3⟩])) q2 2 2 [(⟨1, 0, ⟨q1, 1, 1, [5]⟩, false, 0⟩ : ArM), ⟨2, 0, ⟨none, 0, 0, []⟩, false, 3⟩] rfl (by omega) (fun m hm => by rcases List.mem_cons.1 hm with rfl | hm; exact ⟨.inl rfl, rfl⟩; obtain rfl := List.mem_singleton.1 hm; exact ⟨.inr rfl, rfl⟩) one_ok) rfl rfl rfl rfl (by repeat (first | exact Takes.nil | apply Takes.dup rfl | apply Takes.cons | exact Take1.here | apply Take1.there)) ?_ | refine G.callU (caps := []) (play_sp 9 (by decide) (.vec 46 5 q2 2 2 (flat eAr [(⟨1, 0, ⟨q1, 1, 1, [5]⟩, false, 0⟩ : ArM), ⟨2, 0, ⟨none, 0, 0, []⟩, false, 3⟩])) q2 2 2 [(⟨1, 0, ⟨q1, 1, 1, [5]⟩, false, 0⟩ : ArM), ⟨2, 0, ⟨none, 0, 0, []⟩, false, 3⟩] rfl (by omega) (fun m hm => by rcases List.mem_cons.1 hm with rfl | hm; exact ⟨.inl rfl, rfl⟩; obtain rfl := List.mem_singleton.1 hm; exact ⟨.inr rfl, rfl⟩) one_ok) rfl rfl rfl (by repeat (first | exact Takes.nil | apply Takes.dup rfl | apply Takes.cons | exact Take1.here | apply Take1.there)) ?_
  rintro v_ give_ ⟨T2, o2, oc2, hT2, rfl, rfl⟩ rs_ hrs_
  simp only [List.cons_append, List.nil_append] at hrs_
  subst hrs_
  have hlen2 : T2.length = 2 := by
    have := congrArg List.length hT2
    rw [List.length_map, runs_len] at this
    exact this
  obtain ⟨x, y, rfl⟩ : ∃ x y, T2 = [x, y] := by
    match T2, hlen2 with
    | [x, y], _ => exact ⟨x, y, rfl⟩
  have hy : y.t.data = [5] := by
    have h1 : [x.t, y.t] = runs (newF 9) [.arr 0 [5] false, .take 3] := hT2
    have h2 := one_runs
    rw [← h1] at h2
    exact h2
  have hT1 : T.length = n := by
    have := congrArg List.length hT
    rw [List.length_map, runs_len, List.length_map, hl] at this
    exact this
  refine G.conv (fun w_ H_ => H_.rdAt (l := [x, y].map xoF) (enc := eB) (s := 1) (by simp) 1 (by simp)) ?_
  rw [show ([x, y].map xoF).getD 1 default = ⟨y.xo, y.t.data.length, y.xc, y.t.data⟩ from rfl]
  have hl2 : 1 < [x, y].length := by simp
  repeat (first | (apply G.ex (hd := rfl); case h => (first | exact Ex.move rfl | exact Ex.fieldE rfl | exact Ex.eqI rfl rfl | exact Ex.lenSl rfl | exact Ex.indexN rfl rfl (by first | omega | (simp; done) | (simp; omega)) | exact Ex.loadT rfl (by first | omega | (simp; done) | (simp; omega)) rfl | exact Ex.extract rfl rfl | exact Ex.assign rfl | exact Ex.pickT rfl (by first | assumption | omega) rfl)) | refine G.g_tt rfl rfl (by first | assumption | omega) ?_ | refine G.nil ?_ | refine GC.seq ?_ | refine GC.region ?_ | refine GE.then_normal ?_)
  refine G.lit (cells := flat eB [5]) rfl (by rfl) (by rfl) (by rfl) (by rfl) (by rfl) (by rfl) rfl (fun q3 => ?_)
  repeat (first | refine G.g_tt rfl rfl (by first | assumption | omega) ?_)
  first | refine G.call (caps := []) (sameBytes_sp (.sl y.xo y.t.data.length y.xc 1 (flat eB y.t.data)) (.vec 5 1 q3 1 1 (flat eB [5])) y.xo q3 y.t.data.length y.xc 1 1 y.t.data [5] rfl rfl (by rw [hy]; decide) (by decide)) rfl rfl rfl rfl (by repeat (first | exact Takes.nil | apply Takes.dup rfl | apply Takes.cons | exact Take1.here | apply Take1.there)) ?_ | refine G.callU (caps := []) (sameBytes_sp (.sl y.xo y.t.data.length y.xc 1 (flat eB y.t.data)) (.vec 5 1 q3 1 1 (flat eB [5])) y.xo q3 y.t.data.length y.xc 1 1 y.t.data [5] rfl rfl (by rw [hy]; decide) (by decide)) rfl rfl rfl (by repeat (first | exact Takes.nil | apply Takes.dup rfl | apply Takes.cons | exact Take1.here | apply Take1.there)) ?_
  rintro v_ give_ ⟨rfl, rfl⟩ rs_ hrs_
  simp only [List.cons_append, List.nil_append] at hrs_
  subst hrs_
  rw [decide_eq_true hy]
  repeat (first | (apply G.ex (hd := rfl); case h => (first | exact Ex.assign rfl | exact Ex.pickT rfl (by first | assumption | omega) rfl)) | refine G.nil ?_ | refine GC.ret ?_ | refine GE.then_normal ?_)
  refine GE.ret (by first | exact .inl rfl | exact .inr rfl) (by first | exact res0 Try.results13 | exact res1 Try.results13 rfl | exact res2 Try.results13 rfl rfl | exact resR1 Try.results13 (by first | exact RV.tmp rfl | exact RV.cell rfl (eP_len _) | exact RV.cell rfl rfl | exact RV.cell1 rfl) | exact resR2 Try.results13 (by first | exact RV.tmp rfl | exact RV.cell rfl (eP_len _) | exact RV.cell rfl rfl | exact RV.cell1 rfl) (by first | exact RV.tmp rfl | exact RV.cell rfl (eP_len _) | exact RV.cell rfl rfl | exact RV.cell1 rfl) | exact resR3 Try.results13 (by first | exact RV.tmp rfl | exact RV.cell rfl (eP_len _) | exact RV.cell rfl rfl | exact RV.cell1 rfl) (by first | exact RV.tmp rfl | exact RV.cell rfl (eP_len _) | exact RV.cell rfl rfl | exact RV.cell1 rfl) (by first | exact RV.tmp rfl | exact RV.cell rfl (eP_len _) | exact RV.cell rfl rfl | exact RV.cell1 rfl)) ⟨T, o, oc, hT, rfl, rfl⟩ (by repeat (first | exact Takes.nil | apply Takes.dup rfl | apply Takes.cons | exact Take1.here | apply Take1.there)) (by repeat (first | exact Subs.refl | refine Subs.skip ?_))
end recv
end Go.Proofs.Ytfopnlfdoljcdaa
