/-
  CONTRACT of delta.Delta, by the kit.
-/
import Derived.Test.YtmceappjldcbmaaDoorDelta
namespace Go.Proofs.YtmceappjldcbmaaDoor
open Go.RowKit
attribute [local irreducible] Ex G GC GE Gq FPost LPost
set_option linter.unusedVariables false
set_option linter.unusedSimpArgs false

namespace delta
def dvec (x : SlD UInt8) : Res := .vec 5 1 x.ao x.n x.c (flat eB x.l)
def Best (old now : List UInt8) (at_ : Nat) (f k : Nat) : Prop := f ≤ old.length ∧ k ≤ old.length - f ∧ at_ + k ≤ now.length ∧ (old.drop f).take k = (now.drop at_).take k
set_option maxHeartbeats 4000000 in
theorem delta_sp (ao : Option Addr) (m c : Nat) (old : List UInt8) (hold : old.length = m) (hm : m ≤ 2048) (bo : Option Addr) (n d : Nat) (now : List UInt8) (hnow : now.length = n) (hn : n ≤ 2048) :
    Spec Tryd.prog 14 [.slice ao m c, .slice bo n d] [.sl ao m c 1 (flat eB old), .sl bo n d 1 (flat eB now)]
      fun v give => ∃ oa oc A, v = .tuple #[.slice oa A.length oc, .int .i64 0] ∧ (∀ p ∈ A, Ok m p) ∧ pbs old A = now ∧ A.length ≤ n ∧ (A = [] → n = 0) ∧ give = [.sl oa A.length oc 4 (flat eC A), .per (Rd eB 1 (A.map Pc.d))] := by
  refine Spec.intro Tryd.func14 rfl Tryd.ntmps14 rfl fun w0 rest rs_ hrs_ => ?_
  simp only [List.cons_append, List.nil_append] at hrs_
  subst hrs_
  repeat (first | (apply G.ex (hd := rfl); case h => (first | exact Ex.move rfl | exact Ex.gtr rfl rfl | exact Ex.lenSl rfl | exact Ex.assign rfl | exact Ex.pickF rfl (by first | assumption | omega) rfl)) | refine G.g_ff rfl rfl (by first | assumption | omega) ?_ | refine G.nil ?_ | refine GC.seq ?_ | refine GC.region ?_ | refine GC.skip ?_ | refine GE.then_normal ?_ | refine GC.cond_no rfl (by first | assumption | omega) ?_)
  first | refine G.call (caps := []) (seeds_sp ao m c old hold hm) rfl rfl rfl rfl (by repeat first | exact tn_ | apply td_ rfl | apply tc_ | exact .here | apply Take1.there) ?_ | refine G.callU (caps := []) (seeds_sp ao m c old hold hm) rfl rfl rfl (by repeat first | exact tn_ | apply td_ rfl | apply tc_ | exact .here | apply Take1.there) ?_
  rintro v_ give_ ⟨mb, F, rfl, hF, rfl⟩ rs_ hrs_
  simp only [List.cons_append, List.nil_append] at hrs_
  subst hrs_
  rw [show svec F = (F.map (·.2)).map fun x => Res.vec 3 1 x.ao x.n x.c (flat eN x.l) by simp [svec, vecS]]
  refine G.conv (fun w_ H_ => Holds.starFrz (H_.take (need := [.own (Star ((F.map (·.2)).map fun x => Res.vec 3 1 x.ao x.n x.c (flat eN x.l)))]) (by repeat first | exact tn_ | apply td_ rfl | apply tc_ | exact .here | apply Take1.there))) ?_
  try simp only [List.append_eq, List.nil_append, List.cons_append]
  repeat (first | (apply G.ex (hd := rfl); case h => (first | exact Ex.assign rfl)) | refine G.nil ?_ | refine GC.seq ?_ | refine GC.region ?_ | refine GC.block ?_ | refine GE.then_normal ?_)
  first | refine G.nilvec 60 4 ?_ | refine GC.nilvec 60 4 ?_
  refine GC.conv (fun w_ H_ => H_.starNil) ?_
  refine GC.loop (ι := Nat × List Pc × Option Addr × Nat) (fun i => i.1 ≤ n ∧ (∀ p ∈ i.2.1, Ok m p) ∧ pbs old i.2.1 = now.take i.1 ∧ i.2.1.length ≤ i.1 ∧ (i.2.1 = [] → i.1 = 0)) (fun i => n - i.1) (fun i => [(0, .slice ao m c), (1, .slice bo n d), (6, .map (some mb)), (7, .slice i.2.2.1 i.2.1.length i.2.2.2), (8, .int .i64 (i.1 : Int))]) (fun i => [.vec 60 4 i.2.2.1 i.2.1.length i.2.2.2 (flat eC i.2.1), .own (Star ((i.2.1.map Pc.d).map dvec)), .own (MapR eStr mb (fcS F)), .per (Rd eN 1 (F.map (·.2))), .sl ao m c 1 (flat eB old), .sl bo n d 1 (flat eB now)]) (0, [], none, 0) ⟨Nat.zero_le _, fun p hp => by simp at hp, rfl, Nat.le_refl _, fun _ => rfl⟩ (by simp only [fits]; repeat (first | exact trivial | refine And.intro rfl ?_)) (by repeat first | exact tn_ | apply td_ rfl | apply tc_ | exact .here | apply Take1.there) ?_
  rintro ⟨a, A, oa, oc⟩ ⟨ha, hA, hpb, hAl, hA0⟩ fr_ rs_ hfr_ hrs_
  simp only [List.cons_append, List.nil_append] at hfr_ hrs_
  subst hfr_ hrs_
  simp only at ha hA hpb hAl hA0
  repeat (first | (apply G.ex (hd := rfl); case h => (first | exact Ex.move rfl | exact Ex.lss rfl rfl | exact Ex.lenSl rfl)) | refine G.nil ?_ | refine GC.seq ?_ | refine GC.region ?_ | refine GE.then_normal ?_)
  refine GC.cond_dec rfl (fun hlt => ?_) (fun hlt => ?_)
  · have hlt : a < n := by omega
    repeat (first | (apply G.ex (hd := rfl); case h => (first | exact Ex.build rfl rfl)) | refine GC.seq ?_ | refine GC.region ?_ | refine GC.block ?_ | refine GC.skip ?_ | refine GE.then_normal ?_)
    refine G.alloc rfl (fun tb => ?_)
    first | refine G.storeBA rfl rfl rfl rfl rfl ?_
    first | refine G.nil ?_
    first | refine GE.then_normal ?_
    first | refine GC.seq ?_
    have hB0 : Best old now a 0 0 := ⟨by omega, by omega, by omega, by simp⟩
    refine GC.meet (ι := Nat × Nat) (fun i => Best old now a i.1 i.2) (fun i => [(0, .slice ao m c), (1, .slice bo n d), (6, .map (some mb)), (7, .slice oa A.length oc), (8, .int .i64 (a : Int)), (9, .pointer (some (badr tb 0)))]) (fun i => [.blk tb 60 [.bool true, .int .i64 (i.1 : Int), .int .i64 (i.2 : Int), .slice none 0 0], .vec 60 4 oa A.length oc (flat eC A), .own (Star ((A.map Pc.d).map dvec)), .own (MapR eStr mb (fcS F)), .per (Rd eN 1 (F.map (·.2))), .sl ao m c 1 (flat eB old), .sl bo n d 1 (flat eB now)]) rest ?_ ?_
    · by_cases h8 : a + 8 ≤ n
      · have e8 : (a : Int) + 8 = ((a + 8 : Nat) : Int) := by omega
        repeat (first | (apply G.ex (hd := rfl); case h => (first | exact Ex.move rfl | exact Ex.add rfl rfl (by omega) | exact Ex.leq rfl rfl | exact Ex.lenSl rfl)) | refine G.nil ?_ | refine GC.seq ?_ | refine GC.region ?_ | refine GE.then_normal ?_ | refine GC.cond_yes rfl (by first | assumption | omega) ?_)
        rw [e8]
        refine G.sub (l := a) (r := (a + 8)) rfl rfl (by first | exact .inl ⟨rfl, rfl⟩ | exact .inr ⟨_, _, rfl, ev_int rfl (by omega)⟩) (by first | exact .inl ⟨rfl, rfl⟩ | exact .inr ⟨_, _, rfl, ev_int rfl (by omega)⟩) (by omega) rfl (rfl) (fun s1 => ?_)
        rw [flat_cut (enc := eB) (s := 1) inferInstance now a (a + 8), show a + 8 - a = 8 by omega]
        have hpl : ((now.drop a).take 8).length = 8 := by rw [List.length_take, List.length_drop]; omega
        generalize (now.drop a).take 8 = pc at *
        refine G.ex (Ex.convBS (l := pc) rfl hpl (by omega)) rfl ?_
        repeat (first | (refine G.storeB rfl rfl rfl rfl rfl ?_; trace "@@67c690d9dd@0@0@@") | (refine G.storeBA rfl rfl rfl rfl rfl ?_; trace "@@67c690d9dd@0@1@@") | ((apply G.ex (hd := rfl); case h => (first | (exact Ex.move rfl; trace "@@67c690d9dd@2@0@@") | (exact Ex.nilCheck rfl; trace "@@67c690d9dd@2@1@@") | (exact Ex.lenO rfl; trace "@@67c690d9dd@2@2@@") | (exact Ex.indexO rfl rfl (by omega); trace "@@67c690d9dd@2@3@@") | (exact Ex.eqO rfl rfl; trace "@@67c690d9dd@2@4@@") | (exact Ex.neO rfl rfl; trace "@@67c690d9dd@2@5@@") | (exact Ex.subLo rfl rfl (by omega); trace "@@67c690d9dd@2@6@@") | (exact Ex.subHi rfl rfl (by omega); trace "@@67c690d9dd@2@7@@") | (exact Ex.subMid rfl rfl rfl (by omega); trace "@@67c690d9dd@2@8@@") | (exact Ex.addO rfl rfl (by omega); trace "@@67c690d9dd@2@9@@") | (exact Ex.indexPE rfl rfl (by first | omega | (simp; done) | (simp; omega)); trace "@@67c690d9dd@2@10@@") | (exact Ex.indexPB rfl rfl (by first | omega | (simp; done) | (simp; omega)); trace "@@67c690d9dd@2@11@@") | (exact Ex.loadP rfl (by omega); trace "@@67c690d9dd@2@12@@") | (exact Ex.loadPW rfl; trace "@@67c690d9dd@2@13@@") | (exact Ex.loadRP rfl (by first | omega | (simp; done) | (simp; omega)) (by omega); trace "@@67c690d9dd@2@14@@") | (exact Ex.bld0; trace "@@67c690d9dd@2@15@@") | (exact Ex.bldR; trace "@@67c690d9dd@2@16@@") | (exact Ex.fieldE rfl; trace "@@67c690d9dd@2@17@@") | (exact Ex.fieldB rfl; trace "@@67c690d9dd@2@18@@") | (exact Ex.loadB rfl rfl; trace "@@67c690d9dd@2@19@@") | (exact Ex.add rfl rfl (by omega); trace "@@67c690d9dd@2@20@@") | (exact Ex.sub rfl rfl (by omega); trace "@@67c690d9dd@2@21@@") | (exact Ex.lss rfl rfl; trace "@@67c690d9dd@2@22@@") | (exact Ex.leq rfl rfl; trace "@@67c690d9dd@2@23@@") | (exact Ex.gtr rfl rfl; trace "@@67c690d9dd@2@24@@") | (exact Ex.geq rfl rfl; trace "@@67c690d9dd@2@25@@") | (exact Ex.eqBy rfl rfl; trace "@@67c690d9dd@2@26@@") | (exact Ex.neBy rfl rfl; trace "@@67c690d9dd@2@27@@") | (exact Ex.eqI rfl rfl; trace "@@67c690d9dd@2@28@@") | (exact Ex.neI rfl rfl; trace "@@67c690d9dd@2@29@@") | (exact Ex.lenSl rfl; trace "@@67c690d9dd@2@30@@") | (exact Ex.indexN rfl rfl (by first | omega | (simp; done) | (simp; omega)); trace "@@67c690d9dd@2@31@@") | (exact Ex.loadT0 rfl (by first | omega | (simp; done) | (simp; omega)) rfl; trace "@@67c690d9dd@2@32@@") | (exact Ex.loadT rfl (by first | omega | (simp; done) | (simp; omega)) rfl; trace "@@67c690d9dd@2@33@@") | (exact Ex.extract rfl rfl; trace "@@67c690d9dd@2@34@@") | (exact Ex.field rfl rfl; trace "@@67c690d9dd@2@35@@") | (exact Ex.assign rfl; trace "@@67c690d9dd@2@36@@") | (exact Ex.min rfl rfl; trace "@@67c690d9dd@2@37@@") | (exact Ex.min3 rfl rfl rfl; trace "@@67c690d9dd@2@38@@") | (exact Ex.max rfl rfl; trace "@@67c690d9dd@2@39@@") | (exact Ex.quo rfl rfl (by omega); trace "@@67c690d9dd@2@40@@") | (exact Ex.quotB rfl rfl (by omega); trace "@@67c690d9dd@2@41@@") | (exact Ex.rem rfl rfl (by omega); trace "@@67c690d9dd@2@42@@") | (exact Ex.mul rfl rfl (by omega); trace "@@67c690d9dd@2@43@@") | (exact Ex.remt rfl rfl (by omega); trace "@@67c690d9dd@2@44@@") | (exact Ex.notD rfl; trace "@@67c690d9dd@2@45@@") | (exact Ex.notB rfl; trace "@@67c690d9dd@2@46@@") | (exact Ex.eqS rfl rfl; trace "@@67c690d9dd@2@47@@") | (exact Ex.neS rfl rfl; trace "@@67c690d9dd@2@48@@") | (exact Ex.eqB rfl rfl; trace "@@67c690d9dd@2@49@@") | (exact Ex.neB rfl rfl; trace "@@67c690d9dd@2@50@@") | (exact Ex.lenS rfl; trace "@@67c690d9dd@2@51@@") | (exact Ex.indexS rfl rfl (by first | omega | (simp; done) | (simp; omega)); trace "@@67c690d9dd@2@52@@") | (exact Ex.neg rfl (by omega); trace "@@67c690d9dd@2@53@@") | (exact Ex.convS rfl; trace "@@67c690d9dd@2@54@@") | (exact Ex.pickT rfl (by first | assumption | omega) rfl; trace "@@67c690d9dd@2@55@@") | (exact Ex.pickF rfl (by first | assumption | omega) rfl; trace "@@67c690d9dd@2@56@@") | (exact Ex.loadBA rfl rfl rfl; trace "@@67c690d9dd@2@57@@") | (exact Ex.loadTA rfl (by first | omega | (simp; done) | (simp; omega)); trace "@@67c690d9dd@2@58@@") | (exact Ex.build rfl rfl; trace "@@67c690d9dd@2@59@@") | (exact Ex.pickLT rfl rfl; trace "@@67c690d9dd@2@60@@") | (exact Ex.pickLF rfl rfl; trace "@@67c690d9dd@2@61@@") | (exact Ex.eqA rfl rfl rfl; trace "@@67c690d9dd@2@62@@") | (exact Ex.neA rfl rfl rfl; trace "@@67c690d9dd@2@63@@") | (exact Ex.pick rfl rfl rfl; trace "@@67c690d9dd@2@64@@") | (exact Ex.indexI rfl rfl (by omega); trace "@@67c690d9dd@2@65@@") | (exact Ex.conv64b rfl; trace "@@67c690d9dd@2@66@@") | (exact Ex.conv64 rfl (by omega); trace "@@67c690d9dd@2@67@@") | (exact Ex.conv8 rfl; trace "@@67c690d9dd@2@68@@") | (exact Ex.conv16 rfl; trace "@@67c690d9dd@2@69@@") | (exact Ex.shr8 rfl rfl; trace "@@67c690d9dd@2@70@@") | (exact Ex.shr16 rfl rfl; trace "@@67c690d9dd@2@71@@") | (exact Ex.shr24 rfl rfl; trace "@@67c690d9dd@2@72@@") | (exact Ex.shl8b rfl rfl; trace "@@67c690d9dd@2@73@@") | (exact Ex.shl8 rfl rfl (by omega); trace "@@67c690d9dd@2@74@@") | (exact Ex.orBbb rfl rfl; trace "@@67c690d9dd@2@75@@") | (exact Ex.orBb rfl rfl (by omega); trace "@@67c690d9dd@2@76@@") | (exact Ex.orB rfl rfl (by omega); trace "@@67c690d9dd@2@77@@") | (exact Ex.and16 rfl rfl (by omega); trace "@@67c690d9dd@2@78@@") | (exact Ex.eqNil rfl rfl; trace "@@67c690d9dd@2@79@@") | (exact Ex.neNil rfl rfl; trace "@@67c690d9dd@2@80@@") | (exact Ex.mkFunc rfl; trace "@@67c690d9dd@2@81@@") | (exact Ex.capSl rfl; trace "@@67c690d9dd@2@82@@") | (exact Ex.arrPtr rfl (by omega); trace "@@67c690d9dd@2@83@@") | (exact Ex.loadArI rfl (by assumption) rfl; trace "@@67c690d9dd@2@84@@") | (exact Ex.eqArrI rfl rfl (by assumption) (by assumption); trace "@@67c690d9dd@2@85@@") | (exact Ex.loadAr rfl rfl rfl rfl; trace "@@67c690d9dd@2@86@@") | (exact Ex.indexArr rfl rfl (by first | omega | (simp; done) | (simp; omega)); trace "@@67c690d9dd@2@87@@") | (exact Ex.buildArr rfl rfl; trace "@@67c690d9dd@2@88@@") | (exact Ex.indexV rfl rfl rfl rfl (by omega); trace "@@67c690d9dd@2@89@@") | (exact Ex.shlK rfl rfl (by omega); trace "@@67c690d9dd@2@90@@") | (exact Ex.orK rfl rfl (by omega); trace "@@67c690d9dd@2@91@@") | (exact Ex.shrK rfl rfl (by omega); trace "@@67c690d9dd@2@92@@") | (exact Ex.andS rfl rfl; trace "@@67c690d9dd@2@93@@") | (exact Ex.andS (k := 0) rfl rfl; trace "@@67c690d9dd@2@94@@") | (exact Ex.andK rfl rfl (by omega); trace "@@67c690d9dd@2@95@@") | (exact Ex.xorB rfl rfl; trace "@@67c690d9dd@2@96@@") | (exact Ex.and rfl rfl; trace "@@67c690d9dd@2@97@@") | (exact Ex.slHi rfl rfl (by omega); trace "@@67c690d9dd@2@98@@") | (exact Ex.slLo rfl rfl (by omega); trace "@@67c690d9dd@2@99@@") | (exact Ex.slLH rfl rfl rfl (by omega); trace "@@67c690d9dd@2@100@@") | (exact Ex.sl3 rfl rfl rfl rfl (by omega); trace "@@67c690d9dd@2@101@@") | (exact Ex.convBO rfl (by omega); trace "@@67c690d9dd@2@102@@") | (exact Ex.loadB rfl (by assumption); trace "@@67c690d9dd@2@103@@") | (exact Ex.eqP0 rfl rfl; trace "@@67c690d9dd@2@104@@") | (exact Ex.neP0 rfl rfl; trace "@@67c690d9dd@2@105@@") | (exact Ex.nePB rfl rfl; trace "@@67c690d9dd@2@106@@") | (exact Ex.mkIface rfl; trace "@@67c690d9dd@2@107@@") | (exact Ex.asYes rfl; trace "@@67c690d9dd@2@108@@") | (exact Ex.asNo rfl rfl; trace "@@67c690d9dd@2@109@@") | (exact Ex.asOne rfl; trace "@@67c690d9dd@2@110@@"))); trace "@@67c690d9dd@0@2@@") | (refine G.g_tt rfl rfl (by first | assumption | omega) ?_; trace "@@67c690d9dd@0@3@@") | (refine G.g_tf rfl rfl (by first | assumption | omega) rfl ?_; trace "@@67c690d9dd@0@4@@") | (refine G.g_ft rfl rfl (by first | assumption | omega) rfl ?_; trace "@@67c690d9dd@0@5@@") | (refine G.g_ff rfl rfl (by first | assumption | omega) ?_; trace "@@67c690d9dd@0@6@@") | (refine G.g_un rfl rfl rfl ?_; trace "@@67c690d9dd@0@7@@") | (refine G.yes rfl rfl ?_; trace "@@67c690d9dd@0@8@@") | (refine G.l_tf rfl rfl rfl ?_; trace "@@67c690d9dd@0@9@@") | (refine G.l_ft rfl rfl rfl ?_; trace "@@67c690d9dd@0@10@@") | (refine G.nil ?_; trace "@@67c690d9dd@0@11@@") | ((apply Gq.ex (hd := rfl); case h => (first | (exact Ex.move rfl; trace "@@67c690d9dd@1@0@@") | (exact Ex.nilCheck rfl; trace "@@67c690d9dd@1@1@@") | (exact Ex.lenO rfl; trace "@@67c690d9dd@1@2@@") | (exact Ex.indexO rfl rfl (by omega); trace "@@67c690d9dd@1@3@@") | (exact Ex.eqO rfl rfl; trace "@@67c690d9dd@1@4@@") | (exact Ex.neO rfl rfl; trace "@@67c690d9dd@1@5@@") | (exact Ex.subLo rfl rfl (by omega); trace "@@67c690d9dd@1@6@@") | (exact Ex.subHi rfl rfl (by omega); trace "@@67c690d9dd@1@7@@") | (exact Ex.subMid rfl rfl rfl (by omega); trace "@@67c690d9dd@1@8@@") | (exact Ex.addO rfl rfl (by omega); trace "@@67c690d9dd@1@9@@") | (exact Ex.indexPE rfl rfl (by first | omega | (simp; done) | (simp; omega)); trace "@@67c690d9dd@1@10@@") | (exact Ex.indexPB rfl rfl (by first | omega | (simp; done) | (simp; omega)); trace "@@67c690d9dd@1@11@@") | (exact Ex.loadP rfl (by omega); trace "@@67c690d9dd@1@12@@") | (exact Ex.loadPW rfl; trace "@@67c690d9dd@1@13@@") | (exact Ex.loadRP rfl (by first | omega | (simp; done) | (simp; omega)) (by omega); trace "@@67c690d9dd@1@14@@") | (exact Ex.bld0; trace "@@67c690d9dd@1@15@@") | (exact Ex.bldR; trace "@@67c690d9dd@1@16@@") | (exact Ex.fieldE rfl; trace "@@67c690d9dd@1@17@@") | (exact Ex.fieldB rfl; trace "@@67c690d9dd@1@18@@") | (exact Ex.loadB rfl rfl; trace "@@67c690d9dd@1@19@@") | (exact Ex.add rfl rfl (by omega); trace "@@67c690d9dd@1@20@@") | (exact Ex.sub rfl rfl (by omega); trace "@@67c690d9dd@1@21@@") | (exact Ex.lss rfl rfl; trace "@@67c690d9dd@1@22@@") | (exact Ex.leq rfl rfl; trace "@@67c690d9dd@1@23@@") | (exact Ex.gtr rfl rfl; trace "@@67c690d9dd@1@24@@") | (exact Ex.geq rfl rfl; trace "@@67c690d9dd@1@25@@") | (exact Ex.eqBy rfl rfl; trace "@@67c690d9dd@1@26@@") | (exact Ex.neBy rfl rfl; trace "@@67c690d9dd@1@27@@") | (exact Ex.eqI rfl rfl; trace "@@67c690d9dd@1@28@@") | (exact Ex.neI rfl rfl; trace "@@67c690d9dd@1@29@@") | (exact Ex.lenSl rfl; trace "@@67c690d9dd@1@30@@") | (exact Ex.indexN rfl rfl (by first | omega | (simp; done) | (simp; omega)); trace "@@67c690d9dd@1@31@@") | (exact Ex.loadT0 rfl (by first | omega | (simp; done) | (simp; omega)) rfl; trace "@@67c690d9dd@1@32@@") | (exact Ex.loadT rfl (by first | omega | (simp; done) | (simp; omega)) rfl; trace "@@67c690d9dd@1@33@@") | (exact Ex.extract rfl rfl; trace "@@67c690d9dd@1@34@@") | (exact Ex.field rfl rfl; trace "@@67c690d9dd@1@35@@") | (exact Ex.assign rfl; trace "@@67c690d9dd@1@36@@") | (exact Ex.min rfl rfl; trace "@@67c690d9dd@1@37@@") | (exact Ex.min3 rfl rfl rfl; trace "@@67c690d9dd@1@38@@") | (exact Ex.max rfl rfl; trace "@@67c690d9dd@1@39@@") | (exact Ex.quo rfl rfl (by omega); trace "@@67c690d9dd@1@40@@") | (exact Ex.quotB rfl rfl (by omega); trace "@@67c690d9dd@1@41@@") | (exact Ex.rem rfl rfl (by omega); trace "@@67c690d9dd@1@42@@") | (exact Ex.mul rfl rfl (by omega); trace "@@67c690d9dd@1@43@@") | (exact Ex.remt rfl rfl (by omega); trace "@@67c690d9dd@1@44@@") | (exact Ex.notD rfl; trace "@@67c690d9dd@1@45@@") | (exact Ex.notB rfl; trace "@@67c690d9dd@1@46@@") | (exact Ex.eqS rfl rfl; trace "@@67c690d9dd@1@47@@") | (exact Ex.neS rfl rfl; trace "@@67c690d9dd@1@48@@") | (exact Ex.eqB rfl rfl; trace "@@67c690d9dd@1@49@@") | (exact Ex.neB rfl rfl; trace "@@67c690d9dd@1@50@@") | (exact Ex.lenS rfl; trace "@@67c690d9dd@1@51@@") | (exact Ex.indexS rfl rfl (by first | omega | (simp; done) | (simp; omega)); trace "@@67c690d9dd@1@52@@") | (exact Ex.neg rfl (by omega); trace "@@67c690d9dd@1@53@@") | (exact Ex.convS rfl; trace "@@67c690d9dd@1@54@@") | (exact Ex.pickT rfl (by first | assumption | omega) rfl; trace "@@67c690d9dd@1@55@@") | (exact Ex.pickF rfl (by first | assumption | omega) rfl; trace "@@67c690d9dd@1@56@@") | (exact Ex.loadBA rfl rfl rfl; trace "@@67c690d9dd@1@57@@") | (exact Ex.loadTA rfl (by first | omega | (simp; done) | (simp; omega)); trace "@@67c690d9dd@1@58@@") | (exact Ex.build rfl rfl; trace "@@67c690d9dd@1@59@@") | (exact Ex.pickLT rfl rfl; trace "@@67c690d9dd@1@60@@") | (exact Ex.pickLF rfl rfl; trace "@@67c690d9dd@1@61@@") | (exact Ex.eqA rfl rfl rfl; trace "@@67c690d9dd@1@62@@") | (exact Ex.neA rfl rfl rfl; trace "@@67c690d9dd@1@63@@") | (exact Ex.pick rfl rfl rfl; trace "@@67c690d9dd@1@64@@") | (exact Ex.indexI rfl rfl (by omega); trace "@@67c690d9dd@1@65@@") | (exact Ex.conv64b rfl; trace "@@67c690d9dd@1@66@@") | (exact Ex.conv64 rfl (by omega); trace "@@67c690d9dd@1@67@@") | (exact Ex.conv8 rfl; trace "@@67c690d9dd@1@68@@") | (exact Ex.conv16 rfl; trace "@@67c690d9dd@1@69@@") | (exact Ex.shr8 rfl rfl; trace "@@67c690d9dd@1@70@@") | (exact Ex.shr16 rfl rfl; trace "@@67c690d9dd@1@71@@") | (exact Ex.shr24 rfl rfl; trace "@@67c690d9dd@1@72@@") | (exact Ex.shl8b rfl rfl; trace "@@67c690d9dd@1@73@@") | (exact Ex.shl8 rfl rfl (by omega); trace "@@67c690d9dd@1@74@@") | (exact Ex.orBbb rfl rfl; trace "@@67c690d9dd@1@75@@") | (exact Ex.orBb rfl rfl (by omega); trace "@@67c690d9dd@1@76@@") | (exact Ex.orB rfl rfl (by omega); trace "@@67c690d9dd@1@77@@") | (exact Ex.and16 rfl rfl (by omega); trace "@@67c690d9dd@1@78@@") | (exact Ex.eqNil rfl rfl; trace "@@67c690d9dd@1@79@@") | (exact Ex.neNil rfl rfl; trace "@@67c690d9dd@1@80@@") | (exact Ex.mkFunc rfl; trace "@@67c690d9dd@1@81@@") | (exact Ex.capSl rfl; trace "@@67c690d9dd@1@82@@") | (exact Ex.arrPtr rfl (by omega); trace "@@67c690d9dd@1@83@@") | (exact Ex.loadArI rfl (by assumption) rfl; trace "@@67c690d9dd@1@84@@") | (exact Ex.eqArrI rfl rfl (by assumption) (by assumption); trace "@@67c690d9dd@1@85@@") | (exact Ex.loadAr rfl rfl rfl rfl; trace "@@67c690d9dd@1@86@@") | (exact Ex.indexArr rfl rfl (by first | omega | (simp; done) | (simp; omega)); trace "@@67c690d9dd@1@87@@") | (exact Ex.buildArr rfl rfl; trace "@@67c690d9dd@1@88@@") | (exact Ex.indexV rfl rfl rfl rfl (by omega); trace "@@67c690d9dd@1@89@@") | (exact Ex.shlK rfl rfl (by omega); trace "@@67c690d9dd@1@90@@") | (exact Ex.orK rfl rfl (by omega); trace "@@67c690d9dd@1@91@@") | (exact Ex.shrK rfl rfl (by omega); trace "@@67c690d9dd@1@92@@") | (exact Ex.andS rfl rfl; trace "@@67c690d9dd@1@93@@") | (exact Ex.andS (k := 0) rfl rfl; trace "@@67c690d9dd@1@94@@") | (exact Ex.andK rfl rfl (by omega); trace "@@67c690d9dd@1@95@@") | (exact Ex.xorB rfl rfl; trace "@@67c690d9dd@1@96@@") | (exact Ex.and rfl rfl; trace "@@67c690d9dd@1@97@@") | (exact Ex.slHi rfl rfl (by omega); trace "@@67c690d9dd@1@98@@") | (exact Ex.slLo rfl rfl (by omega); trace "@@67c690d9dd@1@99@@") | (exact Ex.slLH rfl rfl rfl (by omega); trace "@@67c690d9dd@1@100@@") | (exact Ex.sl3 rfl rfl rfl rfl (by omega); trace "@@67c690d9dd@1@101@@") | (exact Ex.convBO rfl (by omega); trace "@@67c690d9dd@1@102@@") | (exact Ex.loadB rfl (by assumption); trace "@@67c690d9dd@1@103@@") | (exact Ex.eqP0 rfl rfl; trace "@@67c690d9dd@1@104@@") | (exact Ex.neP0 rfl rfl; trace "@@67c690d9dd@1@105@@") | (exact Ex.nePB rfl rfl; trace "@@67c690d9dd@1@106@@") | (exact Ex.mkIface rfl; trace "@@67c690d9dd@1@107@@") | (exact Ex.asYes rfl; trace "@@67c690d9dd@1@108@@") | (exact Ex.asNo rfl rfl; trace "@@67c690d9dd@1@109@@") | (exact Ex.asOne rfl; trace "@@67c690d9dd@1@110@@"))); trace "@@67c690d9dd@0@12@@") | (refine Gq.g_tt rfl rfl (by first | assumption | omega) ?_; trace "@@67c690d9dd@0@13@@") | (refine Gq.g_tf rfl rfl (by first | assumption | omega) rfl ?_; trace "@@67c690d9dd@0@14@@") | (refine Gq.g_ft rfl rfl (by first | assumption | omega) rfl ?_; trace "@@67c690d9dd@0@15@@") | (refine Gq.g_ff rfl rfl (by first | assumption | omega) ?_; trace "@@67c690d9dd@0@16@@") | (refine Gq.g_un rfl rfl rfl ?_; trace "@@67c690d9dd@0@17@@") | (refine Gq.yes rfl rfl ?_; trace "@@67c690d9dd@0@18@@") | (refine Gq.l_tf rfl rfl rfl ?_; trace "@@67c690d9dd@0@19@@") | (refine Gq.l_ft rfl rfl rfl ?_; trace "@@67c690d9dd@0@20@@") | (refine Gq.nil ?_; trace "@@67c690d9dd@0@21@@") | (refine GC.seq ?_; trace "@@67c690d9dd@0@22@@") | (refine GC.region ?_; trace "@@67c690d9dd@0@23@@") | (refine GC.block ?_; trace "@@67c690d9dd@0@24@@") | (refine GC.skip ?_; trace "@@67c690d9dd@0@25@@") | (refine GC.ret ?_; trace "@@67c690d9dd@0@26@@") | (refine GC.exit ?_; trace "@@67c690d9dd@0@27@@") | (refine GE.then_normal ?_; trace "@@67c690d9dd@0@28@@") | (refine GE.then_ret ?_; trace "@@67c690d9dd@0@29@@") | (refine GE.then_exit ?_; trace "@@67c690d9dd@0@30@@") | (refine GE.block_normal ?_; trace "@@67c690d9dd@0@31@@") | (refine GE.block_ret ?_; trace "@@67c690d9dd@0@32@@") | (refine GE.block_hit ?_; trace "@@67c690d9dd@0@33@@") | (refine GE.block_miss rfl ?_; trace "@@67c690d9dd@0@34@@") | (refine GC.cond_yes rfl (by first | assumption | omega) ?_; trace "@@67c690d9dd@0@35@@") | (refine GC.cond_no rfl (by first | assumption | omega) ?_; trace "@@67c690d9dd@0@36@@") | (refine GC.cond_t rfl ?_; trace "@@67c690d9dd@0@37@@") | (refine GC.cond_f rfl ?_; trace "@@67c690d9dd@0@38@@") | (refine GC.scope ?_; trace "@@67c690d9dd@0@39@@") | (refine GE.ng_normal ?_; trace "@@67c690d9dd@0@40@@") | (refine GE.ng_ret ?_; trace "@@67c690d9dd@0@41@@") | (refine GE.ng_exit ?_; trace "@@67c690d9dd@0@42@@") | (refine GC.label ?_; trace "@@67c690d9dd@0@43@@"))
        rcases lookS (strOf pc) F 0 with l1 | ⟨j, s, l1, l2⟩
        · refine G.ex (Ex.lookup (ek := eStr) (k := strOf pc) (v := .slice none 0 0) rfl rfl (by rw [l1]; rfl)) rfl ?_
          repeat (first | (apply G.ex (hd := rfl); case h => (first | exact Ex.move rfl | exact Ex.lenSl rfl)) | refine G.nil ?_ | refine GC.block ?_ | refine GE.then_normal ?_)
          refine GC.loop (ι := Unit) (fun _ => True) (fun _ => 0) (fun _ => [(0, .slice ao m c), (1, .slice bo n d), (6, .map (some mb)), (7, .slice oa A.length oc), (8, .int .i64 (a : Int)), (9, .pointer (some (badr tb 0))), (43, .int .i64 ((0 : Nat) : Int)), (44, .int .i64 0)]) (fun _ => [.blk tb 60 [.bool true, .int .i64 ((0 : Nat) : Int), .int .i64 ((0 : Nat) : Int), .slice none 0 0], .vec 60 4 oa A.length oc (flat eC A), .own (Star ((A.map Pc.d).map dvec)), .own (MapR eStr mb (fcS F)), .per (Rd eN 1 (F.map (·.2))), .sl ao m c 1 (flat eB old), .sl bo n d 1 (flat eB now)]) () trivial (by simp only [fits]; repeat (first | exact trivial | refine And.intro rfl ?_)) (by repeat first | exact tn_ | apply td_ rfl | apply tc_ | exact .here | apply Take1.there) ?_
          rintro _ hu fr_ rs_ hfr_ hrs_
          simp only [List.cons_append, List.nil_append] at hfr_ hrs_
          subst hfr_ hrs_
          repeat (first | (apply G.ex (hd := rfl); case h => (first | exact Ex.lss rfl rfl)) | refine G.nil ?_ | refine GC.seq ?_ | refine GC.region ?_ | refine GC.exit ?_ | refine GE.then_normal ?_ | refine GE.then_exit ?_ | refine GE.block_hit ?_ | refine GC.cond_no rfl (by first | assumption | omega) ?_)
          refine GE.meet (0, 0) hB0 (by simp only [fits]; repeat (first | exact trivial | refine And.intro rfl ?_)) (by repeat first | exact tn_ | apply td_ rfl | apply tc_ | exact .here | apply Take1.there) (by repeat (first | exact Subs.refl | refine Subs.skip ?_))
        · have hjF : j < F.length := (List.getElem?_eq_some_iff.1 l2).1
          have hFj : F[j] = (strOf pc, s) := (List.getElem?_eq_some_iff.1 l2).2
          have hmem : (strOf pc, s) ∈ F := by rw [← hFj]; exact List.getElem_mem hjF
          obtain ⟨hs1, hs2⟩ := hF _ hmem
          simp only at hs1 hs2
          refine G.ex (Ex.lookup (ek := eStr) (k := strOf pc) (v := .slice s.ao s.n s.c) rfl rfl (by rw [l1]; rfl)) rfl ?_
          refine G.conv (fun w_ H_ => H_.rdAt (l := F.map (·.2)) (enc := eN) (s := 1) (by simp) j (by simpa using hjF)) ?_
          rw [show (F.map (·.2)).getD j default = s by rw [List.getD_eq_getElem?_getD, List.getElem?_map, l2]; rfl]
          obtain ⟨so, sn, sc, sl⟩ := s
          simp only at hs1 hs2 ⊢
          refine G.len so (m := sn) (c := sc) fun hlen => ?_
          obtain ⟨hlen1, hlen2, hlen3⟩ := hlen
          rw [flat_len (inferInstance : Enc eN 1), Nat.mul_one, Nat.mul_one] at hlen1
          repeat (first | (apply G.ex (hd := rfl); case h => (first | exact Ex.move rfl | exact Ex.lenSl rfl)) | refine G.nil ?_ | refine GC.block ?_ | refine GE.then_normal ?_)
          refine GC.loop (ι := Nat × Nat × Nat) (fun i => i.1 ≤ sn ∧ Best old now a i.2.1 i.2.2) (fun i => sn - i.1) (fun i => [(0, .slice ao m c), (1, .slice bo n d), (6, .map (some mb)), (7, .slice oa A.length oc), (8, .int .i64 (a : Int)), (9, .pointer (some (badr tb 0))), (42, .slice so sn sc), (43, .int .i64 (sn : Int)), (44, .int .i64 (i.1 : Int))]) (fun i => [.blk tb 60 [.bool true, .int .i64 (i.2.1 : Int), .int .i64 (i.2.2 : Int), .slice none 0 0], .vec 60 4 oa A.length oc (flat eC A), .own (Star ((A.map Pc.d).map dvec)), .own (MapR eStr mb (fcS F)), .per (Rd eN 1 (F.map (·.2))), .sl ao m c 1 (flat eB old), .sl bo n d 1 (flat eB now), .sl so sn sc 1 (flat eN sl)]) (0, 0, 0) ⟨Nat.zero_le _, hB0⟩ (by simp only [fits]; repeat (first | exact trivial | refine And.intro rfl ?_)) (by repeat first | exact tn_ | apply td_ rfl | apply tc_ | exact .here | apply Take1.there) ?_
          rintro ⟨i, f, k⟩ ⟨hi, hB⟩ fr_ rs_ hfr_ hrs_
          simp only [List.cons_append, List.nil_append] at hfr_ hrs_
          subst hfr_ hrs_
          simp only at hi hB
          repeat (first | (apply G.ex (hd := rfl); case h => (first | exact Ex.lss rfl rfl)) | refine G.nil ?_ | refine GC.seq ?_ | refine GC.region ?_ | refine GE.then_normal ?_)
          refine GC.cond_dec rfl (fun hit => ?_) (fun hit => ?_)
          · have hit : i < sn := by omega
            have hp8 := hs2 (sl.getD i default) (by rw [List.getD_eq_getElem?_getD, List.getElem?_eq_getElem (by omega)]; exact List.getElem_mem _)
            repeat (first | (apply G.ex (hd := rfl); case h => (first | exact Ex.indexN rfl rfl (by first | omega | (simp; done) | (simp; omega)) | exact Ex.loadT0 rfl (by first | omega | (simp; done) | (simp; omega)) rfl | exact Ex.assign rfl)) | refine G.nil ?_ | refine GC.seq ?_ | refine GC.region ?_ | refine GC.block ?_ | refine GC.skip ?_ | refine GE.then_normal ?_)
            generalize sl.getD i default = p at *
            have hd1 : (old.drop p).take (m - p) = old.drop p := List.take_of_length_le (by rw [List.length_drop]; omega)
            have hd2 : (now.drop a).take (n - a) = now.drop a := List.take_of_length_le (by rw [List.length_drop]; omega)
            have hd3 : (old.drop p).length = m - p := by rw [List.length_drop]; omega
            have hd4 : (now.drop a).length = n - a := by rw [List.length_drop]; omega
            refine GC.drawA [] [] (by repeat first | exact tn_ | apply td_ rfl | apply tc_ | exact .here | apply Take1.there) (by kernel_rfl) ?_
            first | (apply GA.take [] (hD := .inl rfl) (hsub := ⟨_, Takes.nil⟩) (i := 0) (hi := rfl) (hs := by kernel_rfl) (hfr := by kernel_rfl) (hr := by kernel_rfl) (hQ := np_) (hd := rfl); case hx => (first | exact Ex.move rfl))
            first | (apply GA.take [] (hD := .inl rfl) (hsub := ⟨_, Takes.nil⟩) (i := 1) (hi := rfl) (hs := by kernel_rfl) (hfr := by kernel_rfl) (hr := by kernel_rfl) (hQ := np_) (hd := rfl); case hx => (first | exact Ex.move rfl))
            first | (apply GA.take [] (hD := .inl rfl) (hsub := ⟨_, Takes.nil⟩) (i := 3) (hi := rfl) (hs := by kernel_rfl) (hfr := by kernel_rfl) (hr := by kernel_rfl) (hQ := np_) (hd := rfl); case hx => (first | exact Ex.move rfl))
            first | (apply GA.take [] (hD := .inl rfl) (hsub := ⟨_, Takes.nil⟩) (i := 4) (hi := rfl) (hs := by kernel_rfl) (hfr := by kernel_rfl) (hr := by kernel_rfl) (hQ := np_) (hd := rfl); case hx => (first | exact Ex.move rfl))
            refine GA.two (i := 2) (j := 5) (by kernel_rfl) rfl rfl ?_ ?_
            · refine G.sub (l := p) (r := m) rfl rfl (by first | exact .inl ⟨rfl, rfl⟩ | exact .inr ⟨_, _, rfl, ev_int rfl (by omega)⟩) (by first | exact .inl ⟨rfl, rfl⟩ | exact .inr ⟨_, _, rfl, ev_int rfl (by omega)⟩) (by omega) rfl (rfl) (fun s2 => ?_)
              rw [flat_cut (enc := eB) (s := 1) inferInstance old p m, hd1]
              try refine G.nil ?_
              refine GA.back (by first | exact .inl (by decide) | exact .inr ⟨_, (by repeat first | exact tn_ | apply td_ rfl | apply tc_ | exact .here | apply Take1.there)⟩) ?_
              refine GA.one (i := 5) (by kernel_rfl) rfl ?_
              refine G.sub (l := a) (r := n) rfl rfl (by first | exact .inl ⟨rfl, rfl⟩ | exact .inr ⟨_, _, rfl, ev_int rfl (by omega)⟩) (by first | exact .inl ⟨rfl, rfl⟩ | exact .inr ⟨_, _, rfl, ev_int rfl (by omega)⟩) (by omega) rfl (rfl) (fun s3 => ?_)
              rw [flat_cut (enc := eB) (s := 1) inferInstance now a n, hd2]
              try refine G.nil ?_
              refine GA.back (by first | exact .inl (by decide) | exact .inr ⟨_, (by repeat first | exact tn_ | apply td_ rfl | apply tc_ | exact .here | apply Take1.there)⟩) ?_
              refine GA.one (i := 6) (by kernel_rfl) rfl ?_
              first | refine G.call (caps := []) (alike_sp s2 s3 (m - p) (c - p) (n - a) (d - a) (old.drop p) (now.drop a) hd3 hd4 (by omega) (by omega)) rfl rfl rfl rfl (by repeat first | exact tn_ | apply td_ rfl | apply tc_ | exact .here | apply Take1.there) ?_ | refine G.callU (caps := []) (alike_sp s2 s3 (m - p) (c - p) (n - a) (d - a) (old.drop p) (now.drop a) hd3 hd4 (by omega) (by omega)) rfl rfl rfl (by repeat first | exact tn_ | apply td_ rfl | apply tc_ | exact .here | apply Take1.there) ?_
              rintro v_ give_ ⟨k', rfl, hk1, hk2, hk3, rfl⟩ rs_ hrs_
              simp only [List.cons_append, List.nil_append] at hrs_
              subst hrs_
              try refine G.nil ?_
              refine GA.back (by first | exact .inl (by decide) | exact .inr ⟨_, (by repeat first | exact tn_ | apply td_ rfl | apply tc_ | exact .here | apply Take1.there)⟩) ?_
              first | (apply GA.take [] (hD := .inl rfl) (hsub := ⟨_, Takes.nil⟩) (i := 7) (hi := rfl) (hs := by kernel_rfl) (hfr := by kernel_rfl) (hr := by kernel_rfl) (hQ := np_) (hd := rfl); case hx => (first | exact Ex.assign rfl))
              refine GA.done (by kernel_rfl) ?_
              repeat (first | (apply G.ex (hd := rfl); case h => (first | exact Ex.move rfl | exact Ex.fieldB rfl | exact Ex.loadB rfl rfl | exact Ex.gtr rfl rfl)) | refine G.nil ?_ | refine GC.seq ?_ | refine GC.region ?_ | refine GE.then_normal ?_)
              by_cases hgt : k < k'
              · have hB' : Best old now a p k' := ⟨by omega, by omega, by omega, hk3⟩
                repeat (first | refine G.storeB rfl rfl rfl rfl rfl ?_ | (apply G.ex (hd := rfl); case h => (first | exact Ex.move rfl | exact Ex.fieldB rfl | exact Ex.add rfl rfl (by omega))) | refine G.nil ?_ | refine GC.region ?_ | refine GE.then_normal ?_ | refine GE.block_normal ?_ | refine GC.cond_yes rfl (by first | assumption | omega) ?_)
                refine GE.loop (i + 1, p, k') ⟨by simp only; omega, hB'⟩ (by simp only; omega) (by simp only [fits]; repeat (first | exact trivial | refine And.intro rfl ?_)) (by repeat first | exact tn_ | apply td_ rfl | apply tc_ | exact .here | apply Take1.there) (by repeat (first | exact Subs.refl | refine Subs.skip ?_))
              · repeat (first | (apply G.ex (hd := rfl); case h => (first | exact Ex.move rfl | exact Ex.add rfl rfl (by omega))) | refine G.nil ?_ | refine GC.region ?_ | refine GC.skip ?_ | refine GE.then_normal ?_ | refine GE.block_normal ?_ | refine GC.cond_no rfl (by first | assumption | omega) ?_)
                refine GE.loop (i + 1, f, k) ⟨by simp only; omega, hB⟩ (by simp only; omega) (by simp only [fits]; repeat (first | exact trivial | refine And.intro rfl ?_)) (by repeat first | exact tn_ | apply td_ rfl | apply tc_ | exact .here | apply Take1.there) (by repeat (first | exact Subs.refl | refine Subs.skip ?_))
            · refine G.sub (l := a) (r := n) rfl rfl (by first | exact .inl ⟨rfl, rfl⟩ | exact .inr ⟨_, _, rfl, ev_int rfl (by omega)⟩) (by first | exact .inl ⟨rfl, rfl⟩ | exact .inr ⟨_, _, rfl, ev_int rfl (by omega)⟩) (by omega) rfl (rfl) (fun s3 => ?_)
              rw [flat_cut (enc := eB) (s := 1) inferInstance now a n, hd2]
              try refine G.nil ?_
              refine GA.back (by first | exact .inl (by decide) | exact .inr ⟨_, (by repeat first | exact tn_ | apply td_ rfl | apply tc_ | exact .here | apply Take1.there)⟩) ?_
              refine GA.one (i := 2) (by kernel_rfl) rfl ?_
              refine G.sub (l := p) (r := m) rfl rfl (by first | exact .inl ⟨rfl, rfl⟩ | exact .inr ⟨_, _, rfl, ev_int rfl (by omega)⟩) (by first | exact .inl ⟨rfl, rfl⟩ | exact .inr ⟨_, _, rfl, ev_int rfl (by omega)⟩) (by omega) rfl (rfl) (fun s2 => ?_)
              rw [flat_cut (enc := eB) (s := 1) inferInstance old p m, hd1]
              try refine G.nil ?_
              refine GA.back (by first | exact .inl (by decide) | exact .inr ⟨_, (by repeat first | exact tn_ | apply td_ rfl | apply tc_ | exact .here | apply Take1.there)⟩) ?_
              refine GA.one (i := 6) (by kernel_rfl) rfl ?_
              first | refine G.call (caps := []) (alike_sp s2 s3 (m - p) (c - p) (n - a) (d - a) (old.drop p) (now.drop a) hd3 hd4 (by omega) (by omega)) rfl rfl rfl rfl (by repeat first | exact tn_ | apply td_ rfl | apply tc_ | exact .here | apply Take1.there) ?_ | refine G.callU (caps := []) (alike_sp s2 s3 (m - p) (c - p) (n - a) (d - a) (old.drop p) (now.drop a) hd3 hd4 (by omega) (by omega)) rfl rfl rfl (by repeat first | exact tn_ | apply td_ rfl | apply tc_ | exact .here | apply Take1.there) ?_
              rintro v_ give_ ⟨k', rfl, hk1, hk2, hk3, rfl⟩ rs_ hrs_
              simp only [List.cons_append, List.nil_append] at hrs_
              subst hrs_
              try refine G.nil ?_
              refine GA.back (by first | exact .inl (by decide) | exact .inr ⟨_, (by repeat first | exact tn_ | apply td_ rfl | apply tc_ | exact .here | apply Take1.there)⟩) ?_
              first | (apply GA.take [] (hD := .inl rfl) (hsub := ⟨_, Takes.nil⟩) (i := 7) (hi := rfl) (hs := by kernel_rfl) (hfr := by kernel_rfl) (hr := by kernel_rfl) (hQ := np_) (hd := rfl); case hx => (first | exact Ex.assign rfl))
              refine GA.done (by kernel_rfl) ?_
              repeat (first | (apply G.ex (hd := rfl); case h => (first | exact Ex.move rfl | exact Ex.fieldB rfl | exact Ex.loadB rfl rfl | exact Ex.gtr rfl rfl)) | refine G.nil ?_ | refine GC.seq ?_ | refine GC.region ?_ | refine GE.then_normal ?_)
              by_cases hgt : k < k'
              · have hB' : Best old now a p k' := ⟨by omega, by omega, by omega, hk3⟩
                repeat (first | refine G.storeB rfl rfl rfl rfl rfl ?_ | (apply G.ex (hd := rfl); case h => (first | exact Ex.move rfl | exact Ex.fieldB rfl | exact Ex.add rfl rfl (by omega))) | refine G.nil ?_ | refine GC.region ?_ | refine GE.then_normal ?_ | refine GE.block_normal ?_ | refine GC.cond_yes rfl (by first | assumption | omega) ?_)
                refine GE.loop (i + 1, p, k') ⟨by simp only; omega, hB'⟩ (by simp only; omega) (by simp only [fits]; repeat (first | exact trivial | refine And.intro rfl ?_)) (by repeat first | exact tn_ | apply td_ rfl | apply tc_ | exact .here | apply Take1.there) (by repeat (first | exact Subs.refl | refine Subs.skip ?_))
              · repeat (first | (apply G.ex (hd := rfl); case h => (first | exact Ex.move rfl | exact Ex.add rfl rfl (by omega))) | refine G.nil ?_ | refine GC.region ?_ | refine GC.skip ?_ | refine GE.then_normal ?_ | refine GE.block_normal ?_ | refine GC.cond_no rfl (by first | assumption | omega) ?_)
                refine GE.loop (i + 1, f, k) ⟨by simp only; omega, hB⟩ (by simp only; omega) (by simp only [fits]; repeat (first | exact trivial | refine And.intro rfl ?_)) (by repeat first | exact tn_ | apply td_ rfl | apply tc_ | exact .here | apply Take1.there) (by repeat (first | exact Subs.refl | refine Subs.skip ?_))
          · repeat (first | refine GC.exit ?_ | refine GE.then_exit ?_ | refine GE.block_hit ?_)
            refine GE.meet (f, k) hB (by simp only [fits]; repeat (first | exact trivial | refine And.intro rfl ?_)) (by repeat first | exact tn_ | apply td_ rfl | apply tc_ | exact .here | apply Take1.there) (by repeat (first | exact Subs.refl | refine Subs.skip ?_))
      · repeat (first | (apply G.ex (hd := rfl); case h => (first | exact Ex.move rfl | exact Ex.add rfl rfl (by omega) | exact Ex.leq rfl rfl | exact Ex.lenSl rfl)) | refine G.nil ?_ | refine GC.seq ?_ | refine GC.region ?_ | refine GC.skip ?_ | refine GE.then_normal ?_ | refine GC.cond_no rfl (by first | assumption | omega) ?_)
        refine GE.meet (0, 0) hB0 (by simp only [fits]; repeat (first | exact trivial | refine And.intro rfl ?_)) (by repeat first | exact tn_ | apply td_ rfl | apply tc_ | exact .here | apply Take1.there) (by repeat (first | exact Subs.refl | refine Subs.skip ?_))
    · rintro ⟨f, k⟩ hB fr_ rs_ hfr_ hrs_
      simp only [List.cons_append, List.nil_append] at hfr_ hrs_
      subst hfr_ hrs_
      obtain ⟨b1, b2, b3, b4⟩ := hB
      simp only at b1 b2 b3 b4
      by_cases hk0 : 0 < k
      · have hcat : flat eC A ++ eC ⟨true, f, k, ⟨none, 0, 0, []⟩⟩ = flat eC (A ++ [⟨true, f, k, ⟨none, 0, 0, []⟩⟩]) := flat_snoc ..
        have hpb' : pbs old (A ++ [⟨true, (f : Int), (k : Int), ⟨none, 0, 0, []⟩⟩]) = now.take (a + k) := by
          rw [pbs_append, pbs_one, hpb, List.take_add]
          unfold pb
          simp only [Int.toNat_natCast, List.append_nil]
          rw [b4]
        have hA' : ∀ p ∈ A ++ [(⟨true, (f : Int), (k : Int), ⟨none, 0, 0, []⟩⟩ : Pc)], Ok m p := by
          intro p hp
          rcases List.mem_append.1 hp with hp | hp
          · exact hA p hp
          · simp at hp; subst hp
            exact ⟨rfl, fun _ => rfl, fun h => by simp at h, ⟨by simp only; omega, by simp only; omega⟩, ⟨by simp only; omega, by simp only; omega⟩⟩
        repeat (first | (apply G.ex (hd := rfl); case h => (first | exact Ex.move rfl | exact Ex.fieldB rfl | exact Ex.loadB rfl rfl | exact Ex.gtr rfl rfl | exact Ex.loadBA rfl rfl rfl)) | refine G.nil ?_ | refine GC.seq ?_ | refine GC.region ?_ | refine GE.then_normal ?_ | refine GC.cond_yes rfl (by first | assumption | omega) ?_)
        refine G.lit rfl (by rfl) (by rfl) (by rfl) (by rfl) (by rfl) (by rfl) rfl (fun q => ?_)
        refine G.app rfl rfl (by rfl) (by omega) rfl (hcat) (fun o2 c2 rs_ hrs_ => ?_)
        try simp only at hrs_
        subst hrs_
        rw [show A.length + 1 = (A ++ [(⟨true, (f : Int), (k : Int), ⟨none, 0, 0, []⟩⟩ : Pc)]).length by simp]
        refine G.drop ?_
        refine G.nilvec 5 1 ?_
        refine G.conv (fun w_ H_ => Holds.starIn (H_.take (need := [.vec 5 1 none 0 0 [], .own (Star ((A.map Pc.d).map dvec))]) (by repeat first | exact tn_ | apply td_ rfl | apply tc_ | exact .here | apply Take1.there))) ?_
        try simp only [List.append_eq, List.nil_append, List.cons_append]
        refine G.conv (fun w_ H_ => Holds.starPerm (l' := ((A ++ [(⟨true, (f : Int), (k : Int), ⟨none, 0, 0, []⟩⟩ : Pc)]).map Pc.d).map dvec) (by
          rw [show ((A ++ [(⟨true, (f : Int), (k : Int), ⟨none, 0, 0, []⟩⟩ : Pc)]).map Pc.d).map dvec = (A.map Pc.d).map dvec ++ [dvec ⟨none, 0, 0, []⟩] by simp]
          exact (List.perm_append_singleton _ _).symm) H_) ?_
        repeat (first | (apply G.ex (hd := rfl); case h => (first | exact Ex.move rfl | exact Ex.fieldB rfl | exact Ex.loadB rfl rfl | exact Ex.add rfl rfl (by omega) | exact Ex.assign rfl)) | refine G.nil ?_ | refine GC.seq ?_ | refine GC.region ?_ | refine GC.exit ?_ | refine GE.then_normal ?_ | refine GE.then_exit ?_ | refine GE.block_hit ?_)
        rw [show (a : Int) + (k : Int) = ((a + k : Nat) : Int) by omega]
        refine GE.loop (a + k, A ++ [⟨true, (f : Int), (k : Int), ⟨none, 0, 0, []⟩⟩], o2, c2) ⟨by simp only; omega, hA', hpb', by simp only [List.length_append, List.length_cons, List.length_nil]; omega, fun h => by simp at h⟩ (by simp only; omega) (by simp only [fits]; repeat (first | exact trivial | refine And.intro rfl ?_)) (by repeat first | exact tn_ | apply td_ rfl | apply tc_ | exact .here | apply Take1.there) (by repeat (first | exact Subs.refl | refine Subs.skip ?_))
      · have hk00 : k = 0 := by omega
        subst hk00
        have hx : now.take (a + 1) = now.take a ++ [now.getD a default] := take_snoc' now a (by omega)
        rcases (show A.length = 0 ∨ (¬ A.length = 0 ∧ (A.getD (((A.length : Nat) : Int) - 1).toNat default).copy = true) ∨ (∃ B q, A = B ++ [q] ∧ q.copy = false) from by
          rcases List.eq_nil_or_concat A with h | ⟨B, q, h⟩
          · left; rw [h]; rfl
          · right
            rw [List.concat_eq_append] at h
            cases hc : q.copy
            · exact .inr ⟨B, q, h, hc⟩
            · left
              subst h
              have hi : ((((B ++ [q]).length : Nat) : Int) - 1).toNat = B.length := by simp only [List.length_append, List.length_cons, List.length_nil]; omega
              rw [hi, List.getD_eq_getElem?_getD, List.getElem?_append_right (Nat.le_refl _), Nat.sub_self]
              exact ⟨by simp, hc⟩) with hl0 | ⟨hl0, hcp⟩ | ⟨B, q, hAB, hqc⟩
        · repeat (first | (apply G.ex (hd := rfl); case h => (first | exact Ex.move rfl | exact Ex.fieldB rfl | exact Ex.loadB rfl rfl | exact Ex.gtr rfl rfl | exact Ex.eqI rfl rfl | exact Ex.lenSl rfl | exact Ex.assign rfl | exact Ex.pickT rfl (by first | assumption | omega) rfl | exact Ex.build rfl rfl)) | refine G.g_ft rfl rfl (by first | assumption | omega) rfl ?_ | refine G.nil ?_ | refine GC.seq ?_ | refine GC.region ?_ | refine GC.skip ?_ | refine GE.then_normal ?_ | refine GC.cond_no rfl (by first | assumption | omega) ?_ | refine GC.cond_t rfl ?_)
          refine G.lit rfl (by rfl) (by rfl) (by rfl) (by rfl) (by rfl) (by rfl) rfl (fun q => ?_)
          have hcat : flat eC A ++ eC (⟨false, 0, 0, ⟨none, 0, 0, []⟩⟩ : Pc) = flat eC (A ++ [(⟨false, 0, 0, ⟨none, 0, 0, []⟩⟩ : Pc)]) := flat_snoc ..
          refine G.app rfl rfl (by rfl) (by omega) rfl (hcat) (fun o3 c3 rs_ hrs_ => ?_)
          try simp only at hrs_
          subst hrs_
          rw [show A.length + 1 = (A ++ [(⟨false, 0, 0, ⟨none, 0, 0, []⟩⟩ : Pc)]).length by simp]
          refine G.drop ?_
          refine G.nilvec 5 1 ?_
          refine G.conv (fun w_ H_ => Holds.starIn (H_.take (need := [.vec 5 1 none 0 0 [], .own (Star ((A.map Pc.d).map dvec))]) (by repeat first | exact tn_ | apply td_ rfl | apply tc_ | exact .here | apply Take1.there))) ?_
          try simp only [List.append_eq, List.nil_append, List.cons_append]
          refine G.conv (fun w_ H_ => Holds.starPerm (l' := ((A ++ [(⟨false, 0, 0, ⟨none, 0, 0, []⟩⟩ : Pc)]).map Pc.d).map dvec) (by
            rw [show ((A ++ [(⟨false, 0, 0, ⟨none, 0, 0, []⟩⟩ : Pc)]).map Pc.d).map dvec = (A.map Pc.d).map dvec ++ [dvec ⟨none, 0, 0, []⟩] by simp]
            exact (List.perm_append_singleton _ _).symm) H_) ?_
          have hLpb : pbs old (A ++ [(⟨false, 0, 0, ⟨none, 0, 0, []⟩⟩ : Pc)]) = now.take a := by rw [pbs_append, pbs_one, hpb]; simp [pb]
          have hLok : ∀ p ∈ A ++ [(⟨false, 0, 0, ⟨none, 0, 0, []⟩⟩ : Pc)], Ok m p := by
            intro p hp
            rcases List.mem_append.1 hp with hp | hp
            · exact hA p hp
            · simp only [List.mem_cons, List.not_mem_nil, or_false] at hp
              subst hp
              exact ⟨rfl, fun h => by simp at h, fun _ => ⟨rfl, rfl⟩, ⟨by simp only; omega, by simp only; omega⟩, ⟨by simp only; omega, by simp only; omega⟩⟩
          have hLl : (A ++ [(⟨false, 0, 0, ⟨none, 0, 0, []⟩⟩ : Pc)]).length ≤ a + 1 := by simp only [List.length_append, List.length_cons, List.length_nil]; omega
          have hex_ : ∃ x : Pc, x = (⟨false, 0, 0, ⟨none, 0, 0, []⟩⟩ : Pc) := ⟨_, rfl⟩
          obtain ⟨nw, hnw⟩ := hex_
          have hqc : nw.copy = false := by rw [hnw]
          rw [← hnw] at hLpb hLok hLl ⊢
          clear hnw hcat
          have hlen1_ : 1 ≤ (A ++ [nw]).length := by simp
          have hidx : ((((A ++ [nw]).length : Nat) : Int) - 1).toNat = A.length := by simp only [List.length_append, List.length_cons, List.length_nil]; omega
          have hgq : (A ++ [nw]).getD A.length default = nw := by rw [List.getD_eq_getElem?_getD, List.getElem?_append_right (Nat.le_refl _), Nat.sub_self]; rfl
          have hqok := hLok nw (by simp)
          have hqn : nw.d.n ≤ a := by
            have h1 := congrArg List.length hLpb
            rw [pbs_append, pbs_one, List.length_append, List.length_take] at h1
            have h2 : (pb old nw).length = ((old.drop nw.from_.toNat).take nw.len.toNat).length + nw.d.l.length := by unfold pb; rw [List.length_append]
            have h3 := hqok.dl
            omega
          repeat (first | (apply G.ex (hd := rfl); case h => (first | exact Ex.move rfl | exact Ex.sub rfl rfl (by omega) | exact Ex.lenSl rfl | exact Ex.assign rfl | exact Ex.indexI rfl rfl (by omega))) | refine G.nil ?_ | refine GC.seq ?_ | refine GC.region ?_ | refine GE.then_normal ?_)
          rw [hidx]
          refine GC.conv (fun w_ H_ => Holds.starAt (i := A.length) (by simp) (H_.take (need := [.own (Star (((A ++ [nw]).map Pc.d).map dvec))]) (by repeat first | exact tn_ | apply td_ rfl | apply tc_ | exact .here | apply Take1.there))) ?_
          try simp only [List.append_eq, List.nil_append, List.cons_append]
          rw [show (((A ++ [nw]).map Pc.d).map dvec)[A.length]'(by simp) = Res.vec 5 1 nw.d.ao nw.d.n nw.d.c (flat eB nw.d.l) by simp [dvec]]
          refine GC.drawA [13] [.vec 60 4 o3 (A ++ [nw]).length c3 (flat eC (A ++ [nw])), .sl bo n d 1 (flat eB now)] (by repeat first | exact tn_ | apply td_ rfl | apply tc_ | exact .here | apply Take1.there) (by kernel_rfl) ?_
          first | (apply GA.take [] (hD := .inl rfl) (hsub := ⟨_, Takes.nil⟩) (i := 0) (hi := rfl) (hs := by kernel_rfl) (hfr := by kernel_rfl) (hr := by kernel_rfl) (hQ := np_) (hd := rfl); case hx => (first | exact Ex.move rfl))
          first | (apply GA.take [] (hD := .inl rfl) (hsub := ⟨_, Takes.nil⟩) (i := 1) (hi := rfl) (hs := by kernel_rfl) (hfr := by kernel_rfl) (hr := by kernel_rfl) (hQ := np_) (hd := rfl); case hx => (first | exact Ex.move rfl))
          first | (apply GA.take [] (hD := .inl rfl) (hsub := ⟨_, Takes.nil⟩) (i := 2) (hi := rfl) (hs := by kernel_rfl) (hfr := by kernel_rfl) (hr := by kernel_rfl) (hQ := np_) (hd := rfl); case hx => (first | exact Ex.nilCheck rfl))
          first | (apply GA.take [] (hD := .inl rfl) (hsub := ⟨_, Takes.nil⟩) (i := 3) (hi := rfl) (hs := by kernel_rfl) (hfr := by kernel_rfl) (hr := by kernel_rfl) (hQ := np_) (hd := rfl); case hx => (first | exact Ex.fieldE rfl))
          first | (apply GA.take _ (hD := .inr ⟨rfl, by kernel_rfl⟩) (hsub := ⟨_, (by repeat first | exact tn_ | apply td_ rfl | apply tc_ | exact .here | apply Take1.there)⟩) (i := 4) (hi := rfl) (hs := by kernel_rfl) (hfr := by kernel_rfl) (hr := by kernel_rfl) (hQ := np_) (hd := rfl); case hx => (first | exact Ex.loadT rfl (by first | omega | (simp; done) | (simp; omega)) rfl))
          rw [hgq]
          first | (apply GA.take [] (hD := .inl rfl) (hsub := ⟨_, Takes.nil⟩) (i := 5) (hi := rfl) (hs := by kernel_rfl) (hfr := by kernel_rfl) (hr := by kernel_rfl) (hQ := np_) (hd := rfl); case hx => (first | exact Ex.move rfl))
          first | (apply GA.take [] (hD := .inl rfl) (hsub := ⟨_, Takes.nil⟩) (i := 6) (hi := rfl) (hs := by kernel_rfl) (hfr := by kernel_rfl) (hr := by kernel_rfl) (hQ := np_) (hd := rfl); case hx => (first | exact Ex.move rfl))
          first | (apply GA.take _ (hD := .inr ⟨rfl, by kernel_rfl⟩) (hsub := ⟨_, (by repeat first | exact tn_ | apply td_ rfl | apply tc_ | exact .here | apply Take1.there)⟩) (i := 7) (hi := rfl) (hs := by kernel_rfl) (hfr := by kernel_rfl) (hr := by kernel_rfl) (hQ := np_) (hd := rfl); case hx => (first | exact Ex.indexN rfl rfl (by first | omega | (simp; done) | (simp; omega))))
          first | (apply GA.take _ (hD := .inr ⟨rfl, by kernel_rfl⟩) (hsub := ⟨_, (by repeat first | exact tn_ | apply td_ rfl | apply tc_ | exact .here | apply Take1.there)⟩) (i := 8) (hi := rfl) (hs := by kernel_rfl) (hfr := by kernel_rfl) (hr := by kernel_rfl) (hQ := np_) (hd := rfl); case hx => (first | exact Ex.loadT0 rfl (by first | omega | (simp; done) | (simp; omega)) rfl))
          refine GA.one (i := 9) (by kernel_rfl) rfl ?_
          refine G.lit rfl (by rfl) (by rfl) (by rfl) (by rfl) (by rfl) (by rfl) rfl (fun y => ?_)
          try refine G.nil ?_
          refine GA.back (by first | exact .inl (by decide) | exact .inr ⟨_, (by repeat first | exact tn_ | apply td_ rfl | apply tc_ | exact .here | apply Take1.there)⟩) ?_
          refine GA.one (i := 10) (by kernel_rfl) rfl ?_
          have hcat4 : flat eB nw.d.l ++ flat eB [now.getD a default] = flat eB (nw.d.l ++ [now.getD a default]) := (flat_append ..).symm
          refine G.app rfl rfl (by rfl) (by omega) rfl (hcat4) (fun o4 c4 rs_ hrs_ => ?_)
          try simp only at hrs_
          subst hrs_
          try refine G.nil ?_
          refine GA.back (by first | exact .inl (by decide) | exact .inr ⟨_, (by repeat first | exact tn_ | apply td_ rfl | apply tc_ | exact .here | apply Take1.there)⟩) ?_
          first | (apply GA.take [] (hD := .inl rfl) (hsub := ⟨_, Takes.nil⟩) (i := 11) (hi := rfl) (hs := by kernel_rfl) (hfr := by kernel_rfl) (hr := by kernel_rfl) (hQ := np_) (hd := rfl); case hx => (first | exact Ex.nilCheck rfl))
          first | (apply GA.take [] (hD := .inl rfl) (hsub := ⟨_, Takes.nil⟩) (i := 12) (hi := rfl) (hs := by kernel_rfl) (hfr := by kernel_rfl) (hr := by kernel_rfl) (hQ := np_) (hd := rfl); case hx => (first | exact Ex.fieldE rfl))
          refine GA.one (i := 13) (by kernel_rfl) rfl ?_
          first | refine G.storeT0 rfl rfl rfl rfl (by first | omega | (simp; omega)) rfl ((⟨nw.copy, nw.from_, nw.len, ⟨o4, nw.d.n + 1, c4, nw.d.l ++ [now.getD a default]⟩⟩ : Pc)) ((by rw [hgq]; rfl)) (fun rs_ hrs_ => ?_) | refine G.storeT rfl rfl rfl rfl (by first | omega | (simp; omega)) rfl ((⟨nw.copy, nw.from_, nw.len, ⟨o4, nw.d.n + 1, c4, nw.d.l ++ [now.getD a default]⟩⟩ : Pc)) ((by rw [hgq]; rfl)) (fun rs_ hrs_ => ?_) | refine G.storeTA rfl rfl (by first | omega | (simp; omega)) rfl ((⟨nw.copy, nw.from_, nw.len, ⟨o4, nw.d.n + 1, c4, nw.d.l ++ [now.getD a default]⟩⟩ : Pc)) ((by rw [hgq]; rfl)) (fun rs_ hrs_ => ?_)
          try simp only at hrs_
          subst hrs_
          rw [show (A ++ [nw]).set A.length (⟨nw.copy, nw.from_, nw.len, ⟨o4, nw.d.n + 1, c4, nw.d.l ++ [now.getD a default]⟩⟩ : Pc) = A ++ [(⟨nw.copy, nw.from_, nw.len, ⟨o4, nw.d.n + 1, c4, nw.d.l ++ [now.getD a default]⟩⟩ : Pc)] by simp, show (A ++ [nw]).length = (A ++ [(⟨nw.copy, nw.from_, nw.len, ⟨o4, nw.d.n + 1, c4, nw.d.l ++ [now.getD a default]⟩⟩ : Pc)]).length by simp]
          refine G.conv (fun w_ H_ => Holds.starBack (by simp) (H_.take (need := [.vec 5 1 o4 (nw.d.n + 1) c4 (flat eB (nw.d.l ++ [now.getD a default])), .own (Star ((((A ++ [nw]).map Pc.d).map dvec).eraseIdx A.length))]) (by repeat first | exact tn_ | apply td_ rfl | apply tc_ | exact .here | apply Take1.there))) ?_
          try simp only [List.append_eq, List.nil_append, List.cons_append]
          rw [show (((A ++ [nw]).map Pc.d).map dvec).set A.length (.vec 5 1 o4 (nw.d.n + 1) c4 (flat eB (nw.d.l ++ [now.getD a default]))) = ((A ++ [(⟨nw.copy, nw.from_, nw.len, ⟨o4, nw.d.n + 1, c4, nw.d.l ++ [now.getD a default]⟩⟩ : Pc)]).map Pc.d).map dvec by simp [dvec]]
          have hpb' : pbs old (A ++ [(⟨nw.copy, nw.from_, nw.len, ⟨o4, nw.d.n + 1, c4, nw.d.l ++ [now.getD a default]⟩⟩ : Pc)]) = now.take (a + 1) := by
            rw [hx, ← hLpb, pbs_append, pbs_append, pbs_one, pbs_one, List.append_assoc]
            unfold pb
            simp
          have hok' : ∀ p ∈ A ++ [(⟨nw.copy, nw.from_, nw.len, ⟨o4, nw.d.n + 1, c4, nw.d.l ++ [now.getD a default]⟩⟩ : Pc)], Ok m p := by
            intro p hp
            rcases List.mem_append.1 hp with hp | hp
            · exact hLok p (List.mem_append_left _ hp)
            · simp only [List.mem_cons, List.not_mem_nil, or_false] at hp
              subst hp
              exact ⟨by simp only [List.length_append, List.length_cons, List.length_nil]; have := hqok.dl; omega, fun h => (by simp only at h; rw [hqc] at h; cases h), hqok.nc, hqok.f0, hqok.l0⟩
          have hll' : (A ++ [(⟨nw.copy, nw.from_, nw.len, ⟨o4, nw.d.n + 1, c4, nw.d.l ++ [now.getD a default]⟩⟩ : Pc)]).length ≤ a + 1 := by simp only [List.length_append, List.length_cons, List.length_nil] at hLl ⊢; omega
          try refine G.nil ?_
          refine GA.back (by first | exact .inl (by decide) | exact .inr ⟨_, (by repeat first | exact tn_ | apply td_ rfl | apply tc_ | exact .here | apply Take1.there)⟩) ?_
          refine GA.done (by kernel_rfl) ?_
          repeat (first | (apply G.ex (hd := rfl); case h => (first | exact Ex.move rfl | exact Ex.add rfl rfl (by omega) | exact Ex.assign rfl)) | refine G.nil ?_ | refine GC.region ?_ | refine GE.then_normal ?_ | refine GE.block_normal ?_)
          rw [show (a : Int) + 1 = ((a + 1 : Nat) : Int) by omega]
          refine GE.loop (a + 1, A ++ [(⟨nw.copy, nw.from_, nw.len, ⟨o4, nw.d.n + 1, c4, nw.d.l ++ [now.getD a default]⟩⟩ : Pc)], o3, c3) ⟨by simp only; omega, hok', hpb', hll', fun h => by simp at h⟩ (by simp only; omega) (by simp only [fits]; repeat (first | exact trivial | refine And.intro rfl ?_)) (by repeat first | exact tn_ | apply td_ rfl | apply tc_ | exact .here | apply Take1.there) (by repeat (first | exact Subs.refl | refine Subs.skip ?_))
        · repeat (first | (apply G.ex (hd := rfl); case h => (first | exact Ex.move rfl | exact Ex.fieldE rfl | exact Ex.fieldB rfl | exact Ex.loadB rfl rfl | exact Ex.sub rfl rfl (by omega) | exact Ex.gtr rfl rfl | exact Ex.eqI rfl rfl | exact Ex.lenSl rfl | exact Ex.loadT0 rfl (by first | omega | (simp; done) | (simp; omega)) rfl | exact Ex.assign rfl | exact Ex.pickF rfl (by first | assumption | omega) rfl | exact Ex.indexI rfl rfl (by omega))) | refine G.g_ff rfl rfl (by first | assumption | omega) ?_ | refine G.nil ?_ | refine GC.seq ?_ | refine GC.region ?_ | refine GC.skip ?_ | refine GE.then_normal ?_ | refine GC.cond_no rfl (by first | assumption | omega) ?_)
          rw [hcp]
          repeat (first | (apply G.ex (hd := rfl); case h => (first | exact Ex.move rfl | exact Ex.build rfl rfl)) | refine GC.region ?_ | refine GC.cond_t rfl ?_)
          refine G.lit rfl (by rfl) (by rfl) (by rfl) (by rfl) (by rfl) (by rfl) rfl (fun q => ?_)
          have hcat : flat eC A ++ eC (⟨false, 0, 0, ⟨none, 0, 0, []⟩⟩ : Pc) = flat eC (A ++ [(⟨false, 0, 0, ⟨none, 0, 0, []⟩⟩ : Pc)]) := flat_snoc ..
          refine G.app rfl rfl (by rfl) (by omega) rfl (hcat) (fun o3 c3 rs_ hrs_ => ?_)
          try simp only at hrs_
          subst hrs_
          rw [show A.length + 1 = (A ++ [(⟨false, 0, 0, ⟨none, 0, 0, []⟩⟩ : Pc)]).length by simp]
          refine G.drop ?_
          refine G.nilvec 5 1 ?_
          refine G.conv (fun w_ H_ => Holds.starIn (H_.take (need := [.vec 5 1 none 0 0 [], .own (Star ((A.map Pc.d).map dvec))]) (by repeat first | exact tn_ | apply td_ rfl | apply tc_ | exact .here | apply Take1.there))) ?_
          try simp only [List.append_eq, List.nil_append, List.cons_append]
          refine G.conv (fun w_ H_ => Holds.starPerm (l' := ((A ++ [(⟨false, 0, 0, ⟨none, 0, 0, []⟩⟩ : Pc)]).map Pc.d).map dvec) (by
            rw [show ((A ++ [(⟨false, 0, 0, ⟨none, 0, 0, []⟩⟩ : Pc)]).map Pc.d).map dvec = (A.map Pc.d).map dvec ++ [dvec ⟨none, 0, 0, []⟩] by simp]
            exact (List.perm_append_singleton _ _).symm) H_) ?_
          have hLpb : pbs old (A ++ [(⟨false, 0, 0, ⟨none, 0, 0, []⟩⟩ : Pc)]) = now.take a := by rw [pbs_append, pbs_one, hpb]; simp [pb]
          have hLok : ∀ p ∈ A ++ [(⟨false, 0, 0, ⟨none, 0, 0, []⟩⟩ : Pc)], Ok m p := by
            intro p hp
            rcases List.mem_append.1 hp with hp | hp
            · exact hA p hp
            · simp only [List.mem_cons, List.not_mem_nil, or_false] at hp
              subst hp
              exact ⟨rfl, fun h => by simp at h, fun _ => ⟨rfl, rfl⟩, ⟨by simp only; omega, by simp only; omega⟩, ⟨by simp only; omega, by simp only; omega⟩⟩
          have hLl : (A ++ [(⟨false, 0, 0, ⟨none, 0, 0, []⟩⟩ : Pc)]).length ≤ a + 1 := by simp only [List.length_append, List.length_cons, List.length_nil]; omega
          have hex_ : ∃ x : Pc, x = (⟨false, 0, 0, ⟨none, 0, 0, []⟩⟩ : Pc) := ⟨_, rfl⟩
          obtain ⟨nw, hnw⟩ := hex_
          have hqc : nw.copy = false := by rw [hnw]
          rw [← hnw] at hLpb hLok hLl ⊢
          clear hnw hcat
          have hlen1_ : 1 ≤ (A ++ [nw]).length := by simp
          have hidx : ((((A ++ [nw]).length : Nat) : Int) - 1).toNat = A.length := by simp only [List.length_append, List.length_cons, List.length_nil]; omega
          have hgq : (A ++ [nw]).getD A.length default = nw := by rw [List.getD_eq_getElem?_getD, List.getElem?_append_right (Nat.le_refl _), Nat.sub_self]; rfl
          have hqok := hLok nw (by simp)
          have hqn : nw.d.n ≤ a := by
            have h1 := congrArg List.length hLpb
            rw [pbs_append, pbs_one, List.length_append, List.length_take] at h1
            have h2 : (pb old nw).length = ((old.drop nw.from_.toNat).take nw.len.toNat).length + nw.d.l.length := by unfold pb; rw [List.length_append]
            have h3 := hqok.dl
            omega
          repeat (first | (apply G.ex (hd := rfl); case h => (first | exact Ex.move rfl | exact Ex.sub rfl rfl (by omega) | exact Ex.lenSl rfl | exact Ex.assign rfl | exact Ex.indexI rfl rfl (by omega))) | refine G.nil ?_ | refine GC.seq ?_ | refine GC.region ?_ | refine GE.then_normal ?_)
          rw [hidx]
          refine GC.conv (fun w_ H_ => Holds.starAt (i := A.length) (by simp) (H_.take (need := [.own (Star (((A ++ [nw]).map Pc.d).map dvec))]) (by repeat first | exact tn_ | apply td_ rfl | apply tc_ | exact .here | apply Take1.there))) ?_
          try simp only [List.append_eq, List.nil_append, List.cons_append]
          rw [show (((A ++ [nw]).map Pc.d).map dvec)[A.length]'(by simp) = Res.vec 5 1 nw.d.ao nw.d.n nw.d.c (flat eB nw.d.l) by simp [dvec]]
          refine GC.drawA [13] [.vec 60 4 o3 (A ++ [nw]).length c3 (flat eC (A ++ [nw])), .sl bo n d 1 (flat eB now)] (by repeat first | exact tn_ | apply td_ rfl | apply tc_ | exact .here | apply Take1.there) (by kernel_rfl) ?_
          first | (apply GA.take [] (hD := .inl rfl) (hsub := ⟨_, Takes.nil⟩) (i := 0) (hi := rfl) (hs := by kernel_rfl) (hfr := by kernel_rfl) (hr := by kernel_rfl) (hQ := np_) (hd := rfl); case hx => (first | exact Ex.move rfl))
          first | (apply GA.take [] (hD := .inl rfl) (hsub := ⟨_, Takes.nil⟩) (i := 1) (hi := rfl) (hs := by kernel_rfl) (hfr := by kernel_rfl) (hr := by kernel_rfl) (hQ := np_) (hd := rfl); case hx => (first | exact Ex.move rfl))
          first | (apply GA.take [] (hD := .inl rfl) (hsub := ⟨_, Takes.nil⟩) (i := 2) (hi := rfl) (hs := by kernel_rfl) (hfr := by kernel_rfl) (hr := by kernel_rfl) (hQ := np_) (hd := rfl); case hx => (first | exact Ex.nilCheck rfl))
          first | (apply GA.take [] (hD := .inl rfl) (hsub := ⟨_, Takes.nil⟩) (i := 3) (hi := rfl) (hs := by kernel_rfl) (hfr := by kernel_rfl) (hr := by kernel_rfl) (hQ := np_) (hd := rfl); case hx => (first | exact Ex.fieldE rfl))
          first | (apply GA.take _ (hD := .inr ⟨rfl, by kernel_rfl⟩) (hsub := ⟨_, (by repeat first | exact tn_ | apply td_ rfl | apply tc_ | exact .here | apply Take1.there)⟩) (i := 4) (hi := rfl) (hs := by kernel_rfl) (hfr := by kernel_rfl) (hr := by kernel_rfl) (hQ := np_) (hd := rfl); case hx => (first | exact Ex.loadT rfl (by first | omega | (simp; done) | (simp; omega)) rfl))
          rw [hgq]
          first | (apply GA.take [] (hD := .inl rfl) (hsub := ⟨_, Takes.nil⟩) (i := 5) (hi := rfl) (hs := by kernel_rfl) (hfr := by kernel_rfl) (hr := by kernel_rfl) (hQ := np_) (hd := rfl); case hx => (first | exact Ex.move rfl))
          first | (apply GA.take [] (hD := .inl rfl) (hsub := ⟨_, Takes.nil⟩) (i := 6) (hi := rfl) (hs := by kernel_rfl) (hfr := by kernel_rfl) (hr := by kernel_rfl) (hQ := np_) (hd := rfl); case hx => (first | exact Ex.move rfl))
          first | (apply GA.take _ (hD := .inr ⟨rfl, by kernel_rfl⟩) (hsub := ⟨_, (by repeat first | exact tn_ | apply td_ rfl | apply tc_ | exact .here | apply Take1.there)⟩) (i := 7) (hi := rfl) (hs := by kernel_rfl) (hfr := by kernel_rfl) (hr := by kernel_rfl) (hQ := np_) (hd := rfl); case hx => (first | exact Ex.indexN rfl rfl (by first | omega | (simp; done) | (simp; omega))))
          first | (apply GA.take _ (hD := .inr ⟨rfl, by kernel_rfl⟩) (hsub := ⟨_, (by repeat first | exact tn_ | apply td_ rfl | apply tc_ | exact .here | apply Take1.there)⟩) (i := 8) (hi := rfl) (hs := by kernel_rfl) (hfr := by kernel_rfl) (hr := by kernel_rfl) (hQ := np_) (hd := rfl); case hx => (first | exact Ex.loadT0 rfl (by first | omega | (simp; done) | (simp; omega)) rfl))
          refine GA.one (i := 9) (by kernel_rfl) rfl ?_
          refine G.lit rfl (by rfl) (by rfl) (by rfl) (by rfl) (by rfl) (by rfl) rfl (fun y => ?_)
          try refine G.nil ?_
          refine GA.back (by first | exact .inl (by decide) | exact .inr ⟨_, (by repeat first | exact tn_ | apply td_ rfl | apply tc_ | exact .here | apply Take1.there)⟩) ?_
          refine GA.one (i := 10) (by kernel_rfl) rfl ?_
          have hcat4 : flat eB nw.d.l ++ flat eB [now.getD a default] = flat eB (nw.d.l ++ [now.getD a default]) := (flat_append ..).symm
          refine G.app rfl rfl (by rfl) (by omega) rfl (hcat4) (fun o4 c4 rs_ hrs_ => ?_)
          try simp only at hrs_
          subst hrs_
          try refine G.nil ?_
          refine GA.back (by first | exact .inl (by decide) | exact .inr ⟨_, (by repeat first | exact tn_ | apply td_ rfl | apply tc_ | exact .here | apply Take1.there)⟩) ?_
          first | (apply GA.take [] (hD := .inl rfl) (hsub := ⟨_, Takes.nil⟩) (i := 11) (hi := rfl) (hs := by kernel_rfl) (hfr := by kernel_rfl) (hr := by kernel_rfl) (hQ := np_) (hd := rfl); case hx => (first | exact Ex.nilCheck rfl))
          first | (apply GA.take [] (hD := .inl rfl) (hsub := ⟨_, Takes.nil⟩) (i := 12) (hi := rfl) (hs := by kernel_rfl) (hfr := by kernel_rfl) (hr := by kernel_rfl) (hQ := np_) (hd := rfl); case hx => (first | exact Ex.fieldE rfl))
          refine GA.one (i := 13) (by kernel_rfl) rfl ?_
          first | refine G.storeT0 rfl rfl rfl rfl (by first | omega | (simp; omega)) rfl ((⟨nw.copy, nw.from_, nw.len, ⟨o4, nw.d.n + 1, c4, nw.d.l ++ [now.getD a default]⟩⟩ : Pc)) ((by rw [hgq]; rfl)) (fun rs_ hrs_ => ?_) | refine G.storeT rfl rfl rfl rfl (by first | omega | (simp; omega)) rfl ((⟨nw.copy, nw.from_, nw.len, ⟨o4, nw.d.n + 1, c4, nw.d.l ++ [now.getD a default]⟩⟩ : Pc)) ((by rw [hgq]; rfl)) (fun rs_ hrs_ => ?_) | refine G.storeTA rfl rfl (by first | omega | (simp; omega)) rfl ((⟨nw.copy, nw.from_, nw.len, ⟨o4, nw.d.n + 1, c4, nw.d.l ++ [now.getD a default]⟩⟩ : Pc)) ((by rw [hgq]; rfl)) (fun rs_ hrs_ => ?_)
          try simp only at hrs_
          subst hrs_
          rw [show (A ++ [nw]).set A.length (⟨nw.copy, nw.from_, nw.len, ⟨o4, nw.d.n + 1, c4, nw.d.l ++ [now.getD a default]⟩⟩ : Pc) = A ++ [(⟨nw.copy, nw.from_, nw.len, ⟨o4, nw.d.n + 1, c4, nw.d.l ++ [now.getD a default]⟩⟩ : Pc)] by simp, show (A ++ [nw]).length = (A ++ [(⟨nw.copy, nw.from_, nw.len, ⟨o4, nw.d.n + 1, c4, nw.d.l ++ [now.getD a default]⟩⟩ : Pc)]).length by simp]
          refine G.conv (fun w_ H_ => Holds.starBack (by simp) (H_.take (need := [.vec 5 1 o4 (nw.d.n + 1) c4 (flat eB (nw.d.l ++ [now.getD a default])), .own (Star ((((A ++ [nw]).map Pc.d).map dvec).eraseIdx A.length))]) (by repeat first | exact tn_ | apply td_ rfl | apply tc_ | exact .here | apply Take1.there))) ?_
          try simp only [List.append_eq, List.nil_append, List.cons_append]
          rw [show (((A ++ [nw]).map Pc.d).map dvec).set A.length (.vec 5 1 o4 (nw.d.n + 1) c4 (flat eB (nw.d.l ++ [now.getD a default]))) = ((A ++ [(⟨nw.copy, nw.from_, nw.len, ⟨o4, nw.d.n + 1, c4, nw.d.l ++ [now.getD a default]⟩⟩ : Pc)]).map Pc.d).map dvec by simp [dvec]]
          have hpb' : pbs old (A ++ [(⟨nw.copy, nw.from_, nw.len, ⟨o4, nw.d.n + 1, c4, nw.d.l ++ [now.getD a default]⟩⟩ : Pc)]) = now.take (a + 1) := by
            rw [hx, ← hLpb, pbs_append, pbs_append, pbs_one, pbs_one, List.append_assoc]
            unfold pb
            simp
          have hok' : ∀ p ∈ A ++ [(⟨nw.copy, nw.from_, nw.len, ⟨o4, nw.d.n + 1, c4, nw.d.l ++ [now.getD a default]⟩⟩ : Pc)], Ok m p := by
            intro p hp
            rcases List.mem_append.1 hp with hp | hp
            · exact hLok p (List.mem_append_left _ hp)
            · simp only [List.mem_cons, List.not_mem_nil, or_false] at hp
              subst hp
              exact ⟨by simp only [List.length_append, List.length_cons, List.length_nil]; have := hqok.dl; omega, fun h => (by simp only at h; rw [hqc] at h; cases h), hqok.nc, hqok.f0, hqok.l0⟩
          have hll' : (A ++ [(⟨nw.copy, nw.from_, nw.len, ⟨o4, nw.d.n + 1, c4, nw.d.l ++ [now.getD a default]⟩⟩ : Pc)]).length ≤ a + 1 := by simp only [List.length_append, List.length_cons, List.length_nil] at hLl ⊢; omega
          try refine G.nil ?_
          refine GA.back (by first | exact .inl (by decide) | exact .inr ⟨_, (by repeat first | exact tn_ | apply td_ rfl | apply tc_ | exact .here | apply Take1.there)⟩) ?_
          refine GA.done (by kernel_rfl) ?_
          repeat (first | (apply G.ex (hd := rfl); case h => (first | exact Ex.move rfl | exact Ex.add rfl rfl (by omega) | exact Ex.assign rfl)) | refine G.nil ?_ | refine GC.region ?_ | refine GE.then_normal ?_ | refine GE.block_normal ?_)
          rw [show (a : Int) + 1 = ((a + 1 : Nat) : Int) by omega]
          refine GE.loop (a + 1, A ++ [(⟨nw.copy, nw.from_, nw.len, ⟨o4, nw.d.n + 1, c4, nw.d.l ++ [now.getD a default]⟩⟩ : Pc)], o3, c3) ⟨by simp only; omega, hok', hpb', hll', fun h => by simp at h⟩ (by simp only; omega) (by simp only [fits]; repeat (first | exact trivial | refine And.intro rfl ?_)) (by repeat first | exact tn_ | apply td_ rfl | apply tc_ | exact .here | apply Take1.there) (by repeat (first | exact Subs.refl | refine Subs.skip ?_))
        · subst hAB
          have hcp : ((B ++ [q]).getD ((((B ++ [q]).length : Nat) : Int) - 1).toNat default).copy = false := by
            rw [show ((((B ++ [q]).length : Nat) : Int) - 1).toNat = B.length by simp only [List.length_append, List.length_cons, List.length_nil]; omega, List.getD_eq_getElem?_getD, List.getElem?_append_right (Nat.le_refl _), Nat.sub_self]
            exact hqc
          have hl0 : ¬ (B ++ [q]).length = 0 := by simp
          have hLpb := hpb
          have hLok := hA
          have hLl : (B ++ [q]).length ≤ a + 1 := by omega
          repeat (first | (apply G.ex (hd := rfl); case h => (first | exact Ex.move rfl | exact Ex.fieldE rfl | exact Ex.fieldB rfl | exact Ex.loadB rfl rfl | exact Ex.sub rfl rfl (by omega) | exact Ex.gtr rfl rfl | exact Ex.eqI rfl rfl | exact Ex.lenSl rfl | exact Ex.loadT0 rfl (by first | omega | (simp; done) | (simp; omega)) rfl | exact Ex.assign rfl | exact Ex.pickF rfl (by first | assumption | omega) rfl | exact Ex.indexI rfl rfl (by omega))) | refine G.g_ff rfl rfl (by first | assumption | omega) ?_ | refine G.nil ?_ | refine GC.seq ?_ | refine GC.region ?_ | refine GC.skip ?_ | refine GE.then_normal ?_ | refine GC.cond_no rfl (by first | assumption | omega) ?_)
          rw [hcp]
          have hlen1_ : 1 ≤ (B ++ [q]).length := by simp
          have hidx : ((((B ++ [q]).length : Nat) : Int) - 1).toNat = B.length := by simp only [List.length_append, List.length_cons, List.length_nil]; omega
          have hgq : (B ++ [q]).getD B.length default = q := by rw [List.getD_eq_getElem?_getD, List.getElem?_append_right (Nat.le_refl _), Nat.sub_self]; rfl
          have hqok := hLok q (by simp)
          have hqn : q.d.n ≤ a := by
            have h1 := congrArg List.length hLpb
            rw [pbs_append, pbs_one, List.length_append, List.length_take] at h1
            have h2 : (pb old q).length = ((old.drop q.from_.toNat).take q.len.toNat).length + q.d.l.length := by unfold pb; rw [List.length_append]
            have h3 := hqok.dl
            omega
          repeat (first | (apply G.ex (hd := rfl); case h => (first | exact Ex.move rfl | exact Ex.sub rfl rfl (by omega) | exact Ex.lenSl rfl | exact Ex.assign rfl | exact Ex.indexI rfl rfl (by omega))) | refine G.nil ?_ | refine GC.seq ?_ | refine GC.region ?_ | refine GC.skip ?_ | refine GE.then_normal ?_ | refine GC.cond_f rfl ?_)
          rw [hidx]
          refine GC.conv (fun w_ H_ => Holds.starAt (i := B.length) (by simp) (H_.take (need := [.own (Star (((B ++ [q]).map Pc.d).map dvec))]) (by repeat first | exact tn_ | apply td_ rfl | apply tc_ | exact .here | apply Take1.there))) ?_
          try simp only [List.append_eq, List.nil_append, List.cons_append]
          rw [show (((B ++ [q]).map Pc.d).map dvec)[B.length]'(by simp) = Res.vec 5 1 q.d.ao q.d.n q.d.c (flat eB q.d.l) by simp [dvec]]
          refine GC.drawA [13] [.vec 60 4 oa (B ++ [q]).length oc (flat eC (B ++ [q])), .sl bo n d 1 (flat eB now)] (by repeat first | exact tn_ | apply td_ rfl | apply tc_ | exact .here | apply Take1.there) (by kernel_rfl) ?_
          first | (apply GA.take [] (hD := .inl rfl) (hsub := ⟨_, Takes.nil⟩) (i := 0) (hi := rfl) (hs := by kernel_rfl) (hfr := by kernel_rfl) (hr := by kernel_rfl) (hQ := np_) (hd := rfl); case hx => (first | exact Ex.move rfl))
          first | (apply GA.take [] (hD := .inl rfl) (hsub := ⟨_, Takes.nil⟩) (i := 1) (hi := rfl) (hs := by kernel_rfl) (hfr := by kernel_rfl) (hr := by kernel_rfl) (hQ := np_) (hd := rfl); case hx => (first | exact Ex.move rfl))
          first | (apply GA.take [] (hD := .inl rfl) (hsub := ⟨_, Takes.nil⟩) (i := 2) (hi := rfl) (hs := by kernel_rfl) (hfr := by kernel_rfl) (hr := by kernel_rfl) (hQ := np_) (hd := rfl); case hx => (first | exact Ex.nilCheck rfl))
          first | (apply GA.take [] (hD := .inl rfl) (hsub := ⟨_, Takes.nil⟩) (i := 3) (hi := rfl) (hs := by kernel_rfl) (hfr := by kernel_rfl) (hr := by kernel_rfl) (hQ := np_) (hd := rfl); case hx => (first | exact Ex.fieldE rfl))
          first | (apply GA.take _ (hD := .inr ⟨rfl, by kernel_rfl⟩) (hsub := ⟨_, (by repeat first | exact tn_ | apply td_ rfl | apply tc_ | exact .here | apply Take1.there)⟩) (i := 4) (hi := rfl) (hs := by kernel_rfl) (hfr := by kernel_rfl) (hr := by kernel_rfl) (hQ := np_) (hd := rfl); case hx => (first | exact Ex.loadT rfl (by first | omega | (simp; done) | (simp; omega)) rfl))
          rw [hgq]
          first | (apply GA.take [] (hD := .inl rfl) (hsub := ⟨_, Takes.nil⟩) (i := 5) (hi := rfl) (hs := by kernel_rfl) (hfr := by kernel_rfl) (hr := by kernel_rfl) (hQ := np_) (hd := rfl); case hx => (first | exact Ex.move rfl))
          first | (apply GA.take [] (hD := .inl rfl) (hsub := ⟨_, Takes.nil⟩) (i := 6) (hi := rfl) (hs := by kernel_rfl) (hfr := by kernel_rfl) (hr := by kernel_rfl) (hQ := np_) (hd := rfl); case hx => (first | exact Ex.move rfl))
          first | (apply GA.take _ (hD := .inr ⟨rfl, by kernel_rfl⟩) (hsub := ⟨_, (by repeat first | exact tn_ | apply td_ rfl | apply tc_ | exact .here | apply Take1.there)⟩) (i := 7) (hi := rfl) (hs := by kernel_rfl) (hfr := by kernel_rfl) (hr := by kernel_rfl) (hQ := np_) (hd := rfl); case hx => (first | exact Ex.indexN rfl rfl (by first | omega | (simp; done) | (simp; omega))))
          first | (apply GA.take _ (hD := .inr ⟨rfl, by kernel_rfl⟩) (hsub := ⟨_, (by repeat first | exact tn_ | apply td_ rfl | apply tc_ | exact .here | apply Take1.there)⟩) (i := 8) (hi := rfl) (hs := by kernel_rfl) (hfr := by kernel_rfl) (hr := by kernel_rfl) (hQ := np_) (hd := rfl); case hx => (first | exact Ex.loadT0 rfl (by first | omega | (simp; done) | (simp; omega)) rfl))
          refine GA.one (i := 9) (by kernel_rfl) rfl ?_
          refine G.lit rfl (by rfl) (by rfl) (by rfl) (by rfl) (by rfl) (by rfl) rfl (fun y => ?_)
          try refine G.nil ?_
          refine GA.back (by first | exact .inl (by decide) | exact .inr ⟨_, (by repeat first | exact tn_ | apply td_ rfl | apply tc_ | exact .here | apply Take1.there)⟩) ?_
          refine GA.one (i := 10) (by kernel_rfl) rfl ?_
          have hcat4 : flat eB q.d.l ++ flat eB [now.getD a default] = flat eB (q.d.l ++ [now.getD a default]) := (flat_append ..).symm
          refine G.app rfl rfl (by rfl) (by omega) rfl (hcat4) (fun o4 c4 rs_ hrs_ => ?_)
          try simp only at hrs_
          subst hrs_
          try refine G.nil ?_
          refine GA.back (by first | exact .inl (by decide) | exact .inr ⟨_, (by repeat first | exact tn_ | apply td_ rfl | apply tc_ | exact .here | apply Take1.there)⟩) ?_
          first | (apply GA.take [] (hD := .inl rfl) (hsub := ⟨_, Takes.nil⟩) (i := 11) (hi := rfl) (hs := by kernel_rfl) (hfr := by kernel_rfl) (hr := by kernel_rfl) (hQ := np_) (hd := rfl); case hx => (first | exact Ex.nilCheck rfl))
          first | (apply GA.take [] (hD := .inl rfl) (hsub := ⟨_, Takes.nil⟩) (i := 12) (hi := rfl) (hs := by kernel_rfl) (hfr := by kernel_rfl) (hr := by kernel_rfl) (hQ := np_) (hd := rfl); case hx => (first | exact Ex.fieldE rfl))
          refine GA.one (i := 13) (by kernel_rfl) rfl ?_
          first | refine G.storeT0 rfl rfl rfl rfl (by first | omega | (simp; omega)) rfl ((⟨q.copy, q.from_, q.len, ⟨o4, q.d.n + 1, c4, q.d.l ++ [now.getD a default]⟩⟩ : Pc)) ((by rw [hgq]; rfl)) (fun rs_ hrs_ => ?_) | refine G.storeT rfl rfl rfl rfl (by first | omega | (simp; omega)) rfl ((⟨q.copy, q.from_, q.len, ⟨o4, q.d.n + 1, c4, q.d.l ++ [now.getD a default]⟩⟩ : Pc)) ((by rw [hgq]; rfl)) (fun rs_ hrs_ => ?_) | refine G.storeTA rfl rfl (by first | omega | (simp; omega)) rfl ((⟨q.copy, q.from_, q.len, ⟨o4, q.d.n + 1, c4, q.d.l ++ [now.getD a default]⟩⟩ : Pc)) ((by rw [hgq]; rfl)) (fun rs_ hrs_ => ?_)
          try simp only at hrs_
          subst hrs_
          rw [show (B ++ [q]).set B.length (⟨q.copy, q.from_, q.len, ⟨o4, q.d.n + 1, c4, q.d.l ++ [now.getD a default]⟩⟩ : Pc) = B ++ [(⟨q.copy, q.from_, q.len, ⟨o4, q.d.n + 1, c4, q.d.l ++ [now.getD a default]⟩⟩ : Pc)] by simp, show (B ++ [q]).length = (B ++ [(⟨q.copy, q.from_, q.len, ⟨o4, q.d.n + 1, c4, q.d.l ++ [now.getD a default]⟩⟩ : Pc)]).length by simp]
          refine G.conv (fun w_ H_ => Holds.starBack (by simp) (H_.take (need := [.vec 5 1 o4 (q.d.n + 1) c4 (flat eB (q.d.l ++ [now.getD a default])), .own (Star ((((B ++ [q]).map Pc.d).map dvec).eraseIdx B.length))]) (by repeat first | exact tn_ | apply td_ rfl | apply tc_ | exact .here | apply Take1.there))) ?_
          try simp only [List.append_eq, List.nil_append, List.cons_append]
          rw [show (((B ++ [q]).map Pc.d).map dvec).set B.length (.vec 5 1 o4 (q.d.n + 1) c4 (flat eB (q.d.l ++ [now.getD a default]))) = ((B ++ [(⟨q.copy, q.from_, q.len, ⟨o4, q.d.n + 1, c4, q.d.l ++ [now.getD a default]⟩⟩ : Pc)]).map Pc.d).map dvec by simp [dvec]]
          have hpb' : pbs old (B ++ [(⟨q.copy, q.from_, q.len, ⟨o4, q.d.n + 1, c4, q.d.l ++ [now.getD a default]⟩⟩ : Pc)]) = now.take (a + 1) := by
            rw [hx, ← hLpb, pbs_append, pbs_append, pbs_one, pbs_one, List.append_assoc]
            unfold pb
            simp
          have hok' : ∀ p ∈ B ++ [(⟨q.copy, q.from_, q.len, ⟨o4, q.d.n + 1, c4, q.d.l ++ [now.getD a default]⟩⟩ : Pc)], Ok m p := by
            intro p hp
            rcases List.mem_append.1 hp with hp | hp
            · exact hLok p (List.mem_append_left _ hp)
            · simp only [List.mem_cons, List.not_mem_nil, or_false] at hp
              subst hp
              exact ⟨by simp only [List.length_append, List.length_cons, List.length_nil]; have := hqok.dl; omega, fun h => (by simp only at h; rw [hqc] at h; cases h), hqok.nc, hqok.f0, hqok.l0⟩
          have hll' : (B ++ [(⟨q.copy, q.from_, q.len, ⟨o4, q.d.n + 1, c4, q.d.l ++ [now.getD a default]⟩⟩ : Pc)]).length ≤ a + 1 := by simp only [List.length_append, List.length_cons, List.length_nil] at hLl ⊢; omega
          try refine G.nil ?_
          refine GA.back (by first | exact .inl (by decide) | exact .inr ⟨_, (by repeat first | exact tn_ | apply td_ rfl | apply tc_ | exact .here | apply Take1.there)⟩) ?_
          refine GA.done (by kernel_rfl) ?_
          repeat (first | (apply G.ex (hd := rfl); case h => (first | exact Ex.move rfl | exact Ex.add rfl rfl (by omega) | exact Ex.assign rfl)) | refine G.nil ?_ | refine GC.region ?_ | refine GE.then_normal ?_ | refine GE.block_normal ?_)
          rw [show (a : Int) + 1 = ((a + 1 : Nat) : Int) by omega]
          refine GE.loop (a + 1, B ++ [(⟨q.copy, q.from_, q.len, ⟨o4, q.d.n + 1, c4, q.d.l ++ [now.getD a default]⟩⟩ : Pc)], oa, oc) ⟨by simp only; omega, hok', hpb', hll', fun h => by simp at h⟩ (by simp only; omega) (by simp only [fits]; repeat (first | exact trivial | refine And.intro rfl ?_)) (by repeat first | exact tn_ | apply td_ rfl | apply tc_ | exact .here | apply Take1.there) (by repeat (first | exact Subs.refl | refine Subs.skip ?_))
  · have hae : a = n := by omega
    subst hae
    rw [List.take_of_length_le (by omega)] at hpb
    repeat (first | (apply G.ex (hd := rfl); case h => (first | exact Ex.move rfl | exact Ex.assign rfl)) | refine G.nil ?_ | refine GC.seq ?_ | refine GC.region ?_ | refine GC.ret ?_ | refine GC.exit ?_ | refine GE.then_normal ?_ | refine GE.then_exit ?_ | refine GE.block_hit ?_)
    first | refine G.frz oa ?_ | refine GC.frz oa ?_ | refine GE.frz oa ?_
    refine GE.conv (fun w_ H_ => Holds.starFrz (H_.take (need := [.own (Star ((A.map Pc.d).map dvec))]) (by repeat first | exact tn_ | apply td_ rfl | apply tc_ | exact .here | apply Take1.there))) ?_
    try simp only [List.append_eq, List.nil_append, List.cons_append]
    refine GE.ret (by first | exact .inl rfl | exact .inr rfl) (res2 Tryd.results14 rfl rfl) ⟨oa, oc, A, rfl, hA, hpb, hAl, hA0, rfl⟩ (by repeat first | exact tn_ | apply td_ rfl | apply tc_ | exact .here | apply Take1.there) (by repeat (first | exact Subs.refl | refine Subs.skip ?_))
end delta
end Go.Proofs.YtmceappjldcbmaaDoor
