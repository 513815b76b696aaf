/-
  CONTRACT of delta.Delta, all told, by the kit.
-/
import Derived.Test.YtablmmihngfeaaaDs
namespace Go.Proofs.Ytablmmihngfeaaa
open Go.RowKit
attribute [local irreducible] Ex G GC GE Gq FPost LPost
set_option linter.unusedVariables false
set_option linter.unusedSimpArgs false

namespace delta
def dvec (x : SlD UInt8) : Res := .vec 5 1 x.ao x.n x.c (flat eB x.l)
def Best (old now : List UInt8) (at_ : Nat) (f k : Nat) : Prop := f ≤ old.length ∧ k ≤ old.length - f ∧ at_ + k ≤ now.length ∧ (old.drop f).take k = (now.drop at_).take k
structure Best2 (old now : List UInt8) (a f k : Nat) : Prop where
  b : Best old now a f k
  u : k = 0 → Un old now a
  e : k = 0 ∨ 8 ≤ k
  g : old = now → 8 ≤ now.length → a = 0 → f = 0 ∧ k = now.length
theorem Best2.none {old now : List UInt8} {a : Nat} (hb : Best old now a 0 0) (hu : Un old now a) : Best2 old now a 0 0 :=
  ⟨hb, fun _ => hu, .inl rfl, fun h1 h2 h3 => absurd (by rw [h1, h3]) (hu (by omega) 0 (by rw [h1]; omega))⟩
set_option maxHeartbeats 4000000 in
theorem delta_sp (ao : Option Addr) (m c : Nat) (old : List UInt8) (hold : old.length = m) (hm : m ≤ 2048) (bo : Option Addr) (n d : Nat) (now : List UInt8) (hnow : now.length = n) (hn : n ≤ 2048) :
    Spec Try.prog 7 [.slice ao m c, .slice bo n d] [.sl ao m c 1 (flat eB old), .sl bo n d 1 (flat eB now)]
      fun v give => ∃ oa oc A, v = .tuple #[.slice oa A.length oc, .int .i64 0] ∧ (∀ p ∈ A, Ok m p) ∧ pbs old A = now ∧ A.length ≤ n ∧ (A = [] → n = 0) ∧ Dl old now n A ∧ give = [.sl oa A.length oc 4 (flat eC A), .per (Rd eB 1 (A.map Pc.d))] := by
  refine Spec.intro Try.func7 rfl Try.ntmps7 rfl fun w0 rest rs_ hrs_ => ?_
  simp only [List.cons_append, List.nil_append] at hrs_
  subst hrs_
  repeat (first | (apply G.ex (hd := rfl); case h => (first | exact Ex.move rfl | exact Ex.gtr rfl rfl | exact Ex.lenSl rfl | exact Ex.assign rfl | exact Ex.pickF rfl (by first | assumption | omega) rfl)) | refine G.g_ff rfl rfl (by first | assumption | omega) ?_ | refine G.nil ?_ | refine GC.seq ?_ | refine GC.region ?_ | refine GC.skip ?_ | refine GE.then_normal ?_ | refine GC.cond_no rfl (by first | assumption | omega) ?_)
  first | refine G.call (caps := []) (seeds_sp ao m c old hold hm) rfl rfl rfl rfl (by repeat (first | exact Takes.nil | apply Takes.dup rfl | apply Takes.cons | exact Take1.here | apply Take1.there)) ?_ | refine G.callU (caps := []) (seeds_sp ao m c old hold hm) rfl rfl rfl (by repeat (first | exact Takes.nil | apply Takes.dup rfl | apply Takes.cons | exact Take1.here | apply Take1.there)) ?_
  rintro v_ give_ ⟨mb, F, M, rfl, hF, hM, hall, rfl⟩ rs_ hrs_
  simp only [List.cons_append, List.nil_append] at hrs_
  subst hrs_
  rw [show svec F = (F.map (·.2)).map fun x => Res.vec 3 1 x.ao x.n x.c (flat eN x.l) by simp [svec, vecS]]
  refine G.conv (fun w_ H_ => Holds.starFrz (H_.take (need := [.own (Star ((F.map (·.2)).map fun x => Res.vec 3 1 x.ao x.n x.c (flat eN x.l)))]) (by repeat (first | exact Takes.nil | apply Takes.dup rfl | apply Takes.cons | exact Take1.here | apply Take1.there)))) ?_
  try simp only [List.append_eq, List.nil_append, List.cons_append]
  repeat (first | (apply G.ex (hd := rfl); case h => (first | exact Ex.assign rfl)) | refine G.nil ?_ | refine GC.seq ?_ | refine GC.region ?_ | refine GC.block ?_ | refine GE.then_normal ?_)
  first | refine G.nilvec 31 4 ?_ | refine GC.nilvec 31 4 ?_
  refine GC.conv (fun w_ H_ => H_.starNil) ?_
  refine GC.loop (ι := Nat × List Pc × Option Addr × Nat) (fun i => i.1 ≤ n ∧ (∀ p ∈ i.2.1, Ok m p) ∧ pbs old i.2.1 = now.take i.1 ∧ i.2.1.length ≤ i.1 ∧ (i.2.1 = [] → i.1 = 0) ∧ Dl old now i.1 i.2.1) (fun i => n - i.1) (fun i => [(0, .slice ao m c), (1, .slice bo n d), (6, .map (some mb)), (7, .slice i.2.2.1 i.2.1.length i.2.2.2), (8, .int .i64 (i.1 : Int))]) (fun i => [.vec 31 4 i.2.2.1 i.2.1.length i.2.2.2 (flat eC i.2.1), .own (Star ((i.2.1.map Pc.d).map dvec)), .own (MapR eStr mb (fcS F)), .per (Rd eN 1 (F.map (·.2))), .sl ao m c 1 (flat eB old), .sl bo n d 1 (flat eB now)]) (0, [], none, 0) ⟨Nat.zero_le _, fun p hp => by simp at hp, rfl, Nat.le_refl _, fun _ => rfl, Dl.nil old now⟩ (by simp only [fits]; repeat (first | exact trivial | refine And.intro rfl ?_)) (by repeat (first | exact Takes.nil | apply Takes.dup rfl | apply Takes.cons | exact Take1.here | apply Take1.there)) ?_
  rintro ⟨a, A, oa, oc⟩ ⟨ha, hA, hpb, hAl, hA0, hD⟩ fr_ rs_ hfr_ hrs_
  simp only [List.cons_append, List.nil_append] at hfr_ hrs_
  subst hfr_ hrs_
  simp only at ha hA hpb hAl hA0 hD
  repeat (first | (apply G.ex (hd := rfl); case h => (first | exact Ex.move rfl | exact Ex.lss rfl rfl | exact Ex.lenSl rfl)) | refine G.nil ?_ | refine GC.seq ?_ | refine GC.region ?_ | refine GE.then_normal ?_)
  refine GC.cond_dec rfl (fun hlt => ?_) (fun hlt => ?_)
  · have hlt : a < n := by omega
    repeat (first | (apply G.ex (hd := rfl); case h => (first | exact Ex.build rfl rfl)) | refine GC.seq ?_ | refine GC.region ?_ | refine GC.block ?_ | refine GC.skip ?_ | refine GE.then_normal ?_)
    refine G.alloc rfl (fun tb => ?_)
    first | refine G.storeBA rfl rfl rfl rfl rfl ?_
    first | refine G.nil ?_
    first | refine GE.then_normal ?_
    first | refine GC.seq ?_
    have hB0 : Best old now a 0 0 := ⟨by omega, by omega, by omega, by simp⟩
    refine GC.meet (ι := Nat × Nat) (fun i => Best2 old now a i.1 i.2) (fun i => [(0, .slice ao m c), (1, .slice bo n d), (6, .map (some mb)), (7, .slice oa A.length oc), (8, .int .i64 (a : Int)), (9, .pointer (some (badr tb 0)))]) (fun i => [.blk tb 31 [.bool true, .int .i64 (i.1 : Int), .int .i64 (i.2 : Int), .slice none 0 0], .vec 31 4 oa A.length oc (flat eC A), .own (Star ((A.map Pc.d).map dvec)), .own (MapR eStr mb (fcS F)), .per (Rd eN 1 (F.map (·.2))), .sl ao m c 1 (flat eB old), .sl bo n d 1 (flat eB now)]) rest ?_ ?_
    · by_cases h8 : a + 8 ≤ n
      · have e8 : (a : Int) + 8 = ((a + 8 : Nat) : Int) := by omega
        repeat (first | (apply G.ex (hd := rfl); case h => (first | exact Ex.move rfl | exact Ex.add rfl rfl (by omega) | exact Ex.leq rfl rfl | exact Ex.lenSl rfl)) | refine G.nil ?_ | refine GC.seq ?_ | refine GC.region ?_ | refine GE.then_normal ?_ | refine GC.cond_yes rfl (by first | assumption | omega) ?_)
        rw [e8]
        refine G.sub (l := a) (r := (a + 8)) rfl rfl (by first | exact .inl ⟨rfl, rfl⟩ | exact .inr ⟨_, _, rfl, ev_int rfl (by omega)⟩) (by first | exact .inl ⟨rfl, rfl⟩ | exact .inr ⟨_, _, rfl, ev_int rfl (by omega)⟩) (by omega) rfl (rfl) (fun s1 => ?_)
        rw [flat_cut (enc := eB) (s := 1) inferInstance now a (a + 8), show a + 8 - a = 8 by omega]
        have hpl : ((now.drop a).take 8).length = 8 := by rw [List.length_take, List.length_drop]; omega
        generalize hpc : (now.drop a).take 8 = pc at *
        replace hpc : pcs now a = pc := hpc
        refine G.ex (Ex.convBS (l := pc) rfl hpl (by omega)) rfl ?_
        repeat (first | fail)
        rcases lookS (strOf pc) F 0 with ⟨l1, lno⟩ | ⟨j, s, l1, l2⟩
        · have hU : Un old now a := fun _ p hp => by rw [hpc]; exact hF.none hall lno p hp
          refine G.ex (Ex.lookup (ek := eStr) (k := strOf pc) (v := .slice none 0 0) rfl rfl (by rw [l1]; rfl)) rfl ?_
          repeat (first | (apply G.ex (hd := rfl); case h => (first | exact Ex.move rfl | exact Ex.lenSl rfl)) | refine G.nil ?_ | refine GC.block ?_ | refine GE.then_normal ?_)
          refine GC.loop (ι := Unit) (fun _ => True) (fun _ => 0) (fun _ => [(0, .slice ao m c), (1, .slice bo n d), (6, .map (some mb)), (7, .slice oa A.length oc), (8, .int .i64 (a : Int)), (9, .pointer (some (badr tb 0))), (43, .int .i64 ((0 : Nat) : Int)), (44, .int .i64 0)]) (fun _ => [.blk tb 31 [.bool true, .int .i64 ((0 : Nat) : Int), .int .i64 ((0 : Nat) : Int), .slice none 0 0], .vec 31 4 oa A.length oc (flat eC A), .own (Star ((A.map Pc.d).map dvec)), .own (MapR eStr mb (fcS F)), .per (Rd eN 1 (F.map (·.2))), .sl ao m c 1 (flat eB old), .sl bo n d 1 (flat eB now)]) () trivial (by simp only [fits]; repeat (first | exact trivial | refine And.intro rfl ?_)) (by repeat (first | exact Takes.nil | apply Takes.dup rfl | apply Takes.cons | exact Take1.here | apply Take1.there)) ?_
          rintro _ hu fr_ rs_ hfr_ hrs_
          simp only [List.cons_append, List.nil_append] at hfr_ hrs_
          subst hfr_ hrs_
          repeat (first | (apply G.ex (hd := rfl); case h => (first | exact Ex.lss rfl rfl)) | refine G.nil ?_ | refine GC.seq ?_ | refine GC.region ?_ | refine GC.exit ?_ | refine GE.then_normal ?_ | refine GE.then_exit ?_ | refine GE.block_hit ?_ | refine GC.cond_no rfl (by first | assumption | omega) ?_)
          refine GE.meet (0, 0) (Best2.none hB0 hU) (by simp only [fits]; repeat (first | exact trivial | refine And.intro rfl ?_)) (by repeat (first | exact Takes.nil | apply Takes.dup rfl | apply Takes.cons | exact Take1.here | apply Take1.there)) (by repeat (first | exact Subs.refl | refine Subs.skip ?_))
        · have hjF : j < F.length := (List.getElem?_eq_some_iff.1 l2).1
          have hFj : F[j] = (strOf pc, s) := (List.getElem?_eq_some_iff.1 l2).2
          have hmem : (strOf pc, s) ∈ F := by rw [← hFj]; exact List.getElem_mem hjF
          obtain ⟨hs0, hs2, hs1, hs3, hs4⟩ := hF.some hall l2
          replace hs1 : s.n ≤ 2048 := by omega
          refine G.ex (Ex.lookup (ek := eStr) (k := strOf pc) (v := .slice s.ao s.n s.c) rfl rfl (by rw [l1]; rfl)) rfl ?_
          refine G.conv (fun w_ H_ => H_.rdAt (l := F.map (·.2)) (enc := eN) (s := 1) (by simp) j (by simpa using hjF)) ?_
          rw [show (F.map (·.2)).getD j default = s by rw [List.getD_eq_getElem?_getD, List.getElem?_map, l2]; rfl]
          obtain ⟨so, sn, sc, sl⟩ := s
          simp only at hs0 hs1 hs2 hs3 hs4 ⊢
          refine G.len so (m := sn) (c := sc) fun hlen => ?_
          obtain ⟨hlen1, hlen2, hlen3⟩ := hlen
          rw [flat_len (inferInstance : Enc eN 1), Nat.mul_one, Nat.mul_one] at hlen1
          repeat (first | (apply G.ex (hd := rfl); case h => (first | exact Ex.move rfl | exact Ex.lenSl rfl)) | refine G.nil ?_ | refine GC.block ?_ | refine GE.then_normal ?_)
          refine GC.loop (ι := Nat × Nat × Nat) (fun i => i.1 ≤ sn ∧ Best old now a i.2.1 i.2.2 ∧ (0 < i.1 → 8 ≤ i.2.2) ∧ (i.1 = 0 → i.2.2 = 0) ∧ (old = now → 8 ≤ now.length → a = 0 → 0 < i.1 → i.2.1 = 0 ∧ i.2.2 = now.length)) (fun i => sn - i.1) (fun i => [(0, .slice ao m c), (1, .slice bo n d), (6, .map (some mb)), (7, .slice oa A.length oc), (8, .int .i64 (a : Int)), (9, .pointer (some (badr tb 0))), (42, .slice so sn sc), (43, .int .i64 (sn : Int)), (44, .int .i64 (i.1 : Int))]) (fun i => [.blk tb 31 [.bool true, .int .i64 (i.2.1 : Int), .int .i64 (i.2.2 : Int), .slice none 0 0], .vec 31 4 oa A.length oc (flat eC A), .own (Star ((A.map Pc.d).map dvec)), .own (MapR eStr mb (fcS F)), .per (Rd eN 1 (F.map (·.2))), .sl ao m c 1 (flat eB old), .sl bo n d 1 (flat eB now), .sl so sn sc 1 (flat eN sl)]) (0, 0, 0) ⟨Nat.zero_le _, hB0, fun h => absurd h (Nat.lt_irrefl _), fun _ => rfl, fun _ _ _ h => absurd h (Nat.lt_irrefl _)⟩ (by simp only [fits]; repeat (first | exact trivial | refine And.intro rfl ?_)) (by repeat (first | exact Takes.nil | apply Takes.dup rfl | apply Takes.cons | exact Take1.here | apply Take1.there)) ?_
          rintro ⟨i, f, k⟩ ⟨hi, hB, hB8, hBz, hBg⟩ fr_ rs_ hfr_ hrs_
          simp only [List.cons_append, List.nil_append] at hfr_ hrs_
          subst hfr_ hrs_
          simp only at hi hB hB8 hBz hBg
          repeat (first | (apply G.ex (hd := rfl); case h => (first | exact Ex.lss rfl rfl)) | refine G.nil ?_ | refine GC.seq ?_ | refine GC.region ?_ | refine GE.then_normal ?_)
          refine GC.cond_dec rfl (fun hit => ?_) (fun hit => ?_)
          · have hit : i < sn := by omega
            obtain ⟨hp8, hpe⟩ := hs2 (sl.getD i default) (by rw [List.getD_eq_getElem?_getD, List.getElem?_eq_getElem (by omega)]; exact List.getElem_mem _)
            have hp0 : old = now → a = 0 → i = 0 → sl.getD i default = 0 := fun h1 h2 h3 => by subst h3; exact hs4 (hs0 0 (by rw [h1]; omega) (by rw [← hpc, h1, h2]))
            repeat (first | (apply G.ex (hd := rfl); case h => (first | exact Ex.indexN rfl rfl (by first | omega | (simp; done) | (simp; omega)) | exact Ex.loadT0 rfl (by first | omega | (simp; done) | (simp; omega)) rfl | exact Ex.assign rfl)) | refine G.nil ?_ | refine GC.seq ?_ | refine GC.region ?_ | refine GC.block ?_ | refine GC.skip ?_ | refine GE.then_normal ?_)
            generalize sl.getD i default = p at *
            have hd1 : (old.drop p).take (m - p) = old.drop p := List.take_of_length_le (by rw [List.length_drop]; omega)
            have hd2 : (now.drop a).take (n - a) = now.drop a := List.take_of_length_le (by rw [List.length_drop]; omega)
            have hd3 : (old.drop p).length = m - p := by rw [List.length_drop]; omega
            have hd4 : (now.drop a).length = n - a := by rw [List.length_drop]; omega
            refine GC.drawA [] [] (by repeat (first | exact Takes.nil | apply Takes.dup rfl | apply Takes.cons | exact Take1.here | apply Take1.there)) (by kernel_rfl) ?_
            first | (apply GA.take [] (hD := .inl rfl) (hsub := ⟨_, Takes.nil⟩) (i := 0) (hi := rfl) (hs := by kernel_rfl) (hfr := by kernel_rfl) (hr := by kernel_rfl) (hQ := (by repeat (first | exact NoPanic.fpost | apply NoPanic.then_ | apply NoPanic.block))) (hd := rfl); case hx => (first | exact Ex.move rfl))
            first | (apply GA.take [] (hD := .inl rfl) (hsub := ⟨_, Takes.nil⟩) (i := 1) (hi := rfl) (hs := by kernel_rfl) (hfr := by kernel_rfl) (hr := by kernel_rfl) (hQ := (by repeat (first | exact NoPanic.fpost | apply NoPanic.then_ | apply NoPanic.block))) (hd := rfl); case hx => (first | exact Ex.move rfl))
            first | (apply GA.take [] (hD := .inl rfl) (hsub := ⟨_, Takes.nil⟩) (i := 3) (hi := rfl) (hs := by kernel_rfl) (hfr := by kernel_rfl) (hr := by kernel_rfl) (hQ := (by repeat (first | exact NoPanic.fpost | apply NoPanic.then_ | apply NoPanic.block))) (hd := rfl); case hx => (first | exact Ex.move rfl))
            first | (apply GA.take [] (hD := .inl rfl) (hsub := ⟨_, Takes.nil⟩) (i := 4) (hi := rfl) (hs := by kernel_rfl) (hfr := by kernel_rfl) (hr := by kernel_rfl) (hQ := (by repeat (first | exact NoPanic.fpost | apply NoPanic.then_ | apply NoPanic.block))) (hd := rfl); case hx => (first | exact Ex.move rfl))
            refine GA.two (i := 2) (j := 5) (by kernel_rfl) rfl rfl ?_ ?_
            · refine G.sub (l := p) (r := m) rfl rfl (by first | exact .inl ⟨rfl, rfl⟩ | exact .inr ⟨_, _, rfl, ev_int rfl (by omega)⟩) (by first | exact .inl ⟨rfl, rfl⟩ | exact .inr ⟨_, _, rfl, ev_int rfl (by omega)⟩) (by omega) rfl (rfl) (fun s2 => ?_)
              rw [flat_cut (enc := eB) (s := 1) inferInstance old p m, hd1]
              try refine G.nil ?_
              refine GA.back (by first | exact .inl (by decide) | exact .inr ⟨_, (by repeat (first | exact Takes.nil | apply Takes.dup rfl | apply Takes.cons | exact Take1.here | apply Take1.there))⟩) ?_
              refine GA.one (i := 5) (by kernel_rfl) rfl ?_
              refine G.sub (l := a) (r := n) rfl rfl (by first | exact .inl ⟨rfl, rfl⟩ | exact .inr ⟨_, _, rfl, ev_int rfl (by omega)⟩) (by first | exact .inl ⟨rfl, rfl⟩ | exact .inr ⟨_, _, rfl, ev_int rfl (by omega)⟩) (by omega) rfl (rfl) (fun s3 => ?_)
              rw [flat_cut (enc := eB) (s := 1) inferInstance now a n, hd2]
              try refine G.nil ?_
              refine GA.back (by first | exact .inl (by decide) | exact .inr ⟨_, (by repeat (first | exact Takes.nil | apply Takes.dup rfl | apply Takes.cons | exact Take1.here | apply Take1.there))⟩) ?_
              refine GA.one (i := 6) (by kernel_rfl) rfl ?_
              first | refine G.call (caps := []) (alike_sp s2 s3 (m - p) (c - p) (n - a) (d - a) (old.drop p) (now.drop a) hd3 hd4 (by omega) (by omega)) rfl rfl rfl rfl (by repeat (first | exact Takes.nil | apply Takes.dup rfl | apply Takes.cons | exact Take1.here | apply Take1.there)) ?_ | refine G.callU (caps := []) (alike_sp s2 s3 (m - p) (c - p) (n - a) (d - a) (old.drop p) (now.drop a) hd3 hd4 (by omega) (by omega)) rfl rfl rfl (by repeat (first | exact Takes.nil | apply Takes.dup rfl | apply Takes.cons | exact Take1.here | apply Take1.there)) ?_
              rintro v_ give_ ⟨k', rfl, hk1, hk2, hk3, hk4, rfl⟩ rs_ hrs_
              simp only [List.cons_append, List.nil_append] at hrs_
              subst hrs_
              try refine G.nil ?_
              refine GA.back (by first | exact .inl (by decide) | exact .inr ⟨_, (by repeat (first | exact Takes.nil | apply Takes.dup rfl | apply Takes.cons | exact Take1.here | apply Take1.there))⟩) ?_
              first | (apply GA.take [] (hD := .inl rfl) (hsub := ⟨_, Takes.nil⟩) (i := 7) (hi := rfl) (hs := by kernel_rfl) (hfr := by kernel_rfl) (hr := by kernel_rfl) (hQ := (by repeat (first | exact NoPanic.fpost | apply NoPanic.then_ | apply NoPanic.block))) (hd := rfl); case hx => (first | exact Ex.assign rfl))
              refine GA.done (by kernel_rfl) ?_
              repeat (first | (apply G.ex (hd := rfl); case h => (first | exact Ex.move rfl | exact Ex.fieldB rfl | exact Ex.loadB rfl rfl | exact Ex.gtr rfl rfl)) | refine G.nil ?_ | refine GC.seq ?_ | refine GC.region ?_ | refine GE.then_normal ?_)
              have hk8 : 8 ≤ k' := eight (hpe.trans hpc.symm) (by omega) (by omega) (fun h1 h2 => hk4 (by omega) (by omega))
              by_cases hgt : k < k'
              · have hB' : Best old now a p k' := ⟨by omega, by omega, by omega, hk3⟩
                have hg' : old = now → 8 ≤ now.length → a = 0 → 0 < i + 1 → p = 0 ∧ k' = now.length := fun h1 h2 h3 _ => by
                  by_cases hi0 : i = 0
                  · have hp := hp0 h1 h3 hi0
                    refine ⟨hp, ?_⟩
                    by_cases hkn : k' < now.length
                    · refine absurd ?_ (hk4 (by rw [hp, ← hold, h1]; omega) (by omega))
                      rw [hp, h3, h1]
                    · omega
                  · have := (hBg h1 h2 h3 (by omega)).2; omega
                repeat (first | refine G.storeB rfl rfl rfl rfl rfl ?_ | (apply G.ex (hd := rfl); case h => (first | exact Ex.move rfl | exact Ex.fieldB rfl | exact Ex.add rfl rfl (by omega))) | refine G.nil ?_ | refine GC.region ?_ | refine GE.then_normal ?_ | refine GE.block_normal ?_ | refine GC.cond_yes rfl (by first | assumption | omega) ?_)
                refine GE.loop (i + 1, p, k') ⟨by simp only; omega, hB', fun _ => hk8, fun h => absurd h (by simp only; omega), hg'⟩ (by simp only; omega) (by simp only [fits]; repeat (first | exact trivial | refine And.intro rfl ?_)) (by repeat (first | exact Takes.nil | apply Takes.dup rfl | apply Takes.cons | exact Take1.here | apply Take1.there)) (by repeat (first | exact Subs.refl | refine Subs.skip ?_))
              · have hi0 : ¬ i = 0 := fun h => by have := hBz h; omega
                repeat (first | (apply G.ex (hd := rfl); case h => (first | exact Ex.move rfl | exact Ex.add rfl rfl (by omega))) | refine G.nil ?_ | refine GC.region ?_ | refine GC.skip ?_ | refine GE.then_normal ?_ | refine GE.block_normal ?_ | refine GC.cond_no rfl (by first | assumption | omega) ?_)
                refine GE.loop (i + 1, f, k) ⟨by simp only; omega, hB, fun _ => hB8 (by omega), fun h => absurd h (by simp only; omega), fun h1 h2 h3 _ => hBg h1 h2 h3 (by omega)⟩ (by simp only; omega) (by simp only [fits]; repeat (first | exact trivial | refine And.intro rfl ?_)) (by repeat (first | exact Takes.nil | apply Takes.dup rfl | apply Takes.cons | exact Take1.here | apply Take1.there)) (by repeat (first | exact Subs.refl | refine Subs.skip ?_))
            · refine G.sub (l := a) (r := n) rfl rfl (by first | exact .inl ⟨rfl, rfl⟩ | exact .inr ⟨_, _, rfl, ev_int rfl (by omega)⟩) (by first | exact .inl ⟨rfl, rfl⟩ | exact .inr ⟨_, _, rfl, ev_int rfl (by omega)⟩) (by omega) rfl (rfl) (fun s3 => ?_)
              rw [flat_cut (enc := eB) (s := 1) inferInstance now a n, hd2]
              try refine G.nil ?_
              refine GA.back (by first | exact .inl (by decide) | exact .inr ⟨_, (by repeat (first | exact Takes.nil | apply Takes.dup rfl | apply Takes.cons | exact Take1.here | apply Take1.there))⟩) ?_
              refine GA.one (i := 2) (by kernel_rfl) rfl ?_
              refine G.sub (l := p) (r := m) rfl rfl (by first | exact .inl ⟨rfl, rfl⟩ | exact .inr ⟨_, _, rfl, ev_int rfl (by omega)⟩) (by first | exact .inl ⟨rfl, rfl⟩ | exact .inr ⟨_, _, rfl, ev_int rfl (by omega)⟩) (by omega) rfl (rfl) (fun s2 => ?_)
              rw [flat_cut (enc := eB) (s := 1) inferInstance old p m, hd1]
              try refine G.nil ?_
              refine GA.back (by first | exact .inl (by decide) | exact .inr ⟨_, (by repeat (first | exact Takes.nil | apply Takes.dup rfl | apply Takes.cons | exact Take1.here | apply Take1.there))⟩) ?_
              refine GA.one (i := 6) (by kernel_rfl) rfl ?_
              first | refine G.call (caps := []) (alike_sp s2 s3 (m - p) (c - p) (n - a) (d - a) (old.drop p) (now.drop a) hd3 hd4 (by omega) (by omega)) rfl rfl rfl rfl (by repeat (first | exact Takes.nil | apply Takes.dup rfl | apply Takes.cons | exact Take1.here | apply Take1.there)) ?_ | refine G.callU (caps := []) (alike_sp s2 s3 (m - p) (c - p) (n - a) (d - a) (old.drop p) (now.drop a) hd3 hd4 (by omega) (by omega)) rfl rfl rfl (by repeat (first | exact Takes.nil | apply Takes.dup rfl | apply Takes.cons | exact Take1.here | apply Take1.there)) ?_
              rintro v_ give_ ⟨k', rfl, hk1, hk2, hk3, hk4, rfl⟩ rs_ hrs_
              simp only [List.cons_append, List.nil_append] at hrs_
              subst hrs_
              try refine G.nil ?_
              refine GA.back (by first | exact .inl (by decide) | exact .inr ⟨_, (by repeat (first | exact Takes.nil | apply Takes.dup rfl | apply Takes.cons | exact Take1.here | apply Take1.there))⟩) ?_
              first | (apply GA.take [] (hD := .inl rfl) (hsub := ⟨_, Takes.nil⟩) (i := 7) (hi := rfl) (hs := by kernel_rfl) (hfr := by kernel_rfl) (hr := by kernel_rfl) (hQ := (by repeat (first | exact NoPanic.fpost | apply NoPanic.then_ | apply NoPanic.block))) (hd := rfl); case hx => (first | exact Ex.assign rfl))
              refine GA.done (by kernel_rfl) ?_
              repeat (first | (apply G.ex (hd := rfl); case h => (first | exact Ex.move rfl | exact Ex.fieldB rfl | exact Ex.loadB rfl rfl | exact Ex.gtr rfl rfl)) | refine G.nil ?_ | refine GC.seq ?_ | refine GC.region ?_ | refine GE.then_normal ?_)
              have hk8 : 8 ≤ k' := eight (hpe.trans hpc.symm) (by omega) (by omega) (fun h1 h2 => hk4 (by omega) (by omega))
              by_cases hgt : k < k'
              · have hB' : Best old now a p k' := ⟨by omega, by omega, by omega, hk3⟩
                have hg' : old = now → 8 ≤ now.length → a = 0 → 0 < i + 1 → p = 0 ∧ k' = now.length := fun h1 h2 h3 _ => by
                  by_cases hi0 : i = 0
                  · have hp := hp0 h1 h3 hi0
                    refine ⟨hp, ?_⟩
                    by_cases hkn : k' < now.length
                    · refine absurd ?_ (hk4 (by rw [hp, ← hold, h1]; omega) (by omega))
                      rw [hp, h3, h1]
                    · omega
                  · have := (hBg h1 h2 h3 (by omega)).2; omega
                repeat (first | refine G.storeB rfl rfl rfl rfl rfl ?_ | (apply G.ex (hd := rfl); case h => (first | exact Ex.move rfl | exact Ex.fieldB rfl | exact Ex.add rfl rfl (by omega))) | refine G.nil ?_ | refine GC.region ?_ | refine GE.then_normal ?_ | refine GE.block_normal ?_ | refine GC.cond_yes rfl (by first | assumption | omega) ?_)
                refine GE.loop (i + 1, p, k') ⟨by simp only; omega, hB', fun _ => hk8, fun h => absurd h (by simp only; omega), hg'⟩ (by simp only; omega) (by simp only [fits]; repeat (first | exact trivial | refine And.intro rfl ?_)) (by repeat (first | exact Takes.nil | apply Takes.dup rfl | apply Takes.cons | exact Take1.here | apply Take1.there)) (by repeat (first | exact Subs.refl | refine Subs.skip ?_))
              · have hi0 : ¬ i = 0 := fun h => by have := hBz h; omega
                repeat (first | (apply G.ex (hd := rfl); case h => (first | exact Ex.move rfl | exact Ex.add rfl rfl (by omega))) | refine G.nil ?_ | refine GC.region ?_ | refine GC.skip ?_ | refine GE.then_normal ?_ | refine GE.block_normal ?_ | refine GC.cond_no rfl (by first | assumption | omega) ?_)
                refine GE.loop (i + 1, f, k) ⟨by simp only; omega, hB, fun _ => hB8 (by omega), fun h => absurd h (by simp only; omega), fun h1 h2 h3 _ => hBg h1 h2 h3 (by omega)⟩ (by simp only; omega) (by simp only [fits]; repeat (first | exact trivial | refine And.intro rfl ?_)) (by repeat (first | exact Takes.nil | apply Takes.dup rfl | apply Takes.cons | exact Take1.here | apply Take1.there)) (by repeat (first | exact Subs.refl | refine Subs.skip ?_))
          · have hin : i = sn := by omega
            have hB2 : Best2 old now a f k := by
              refine ⟨hB, fun hk0 => ?_, ?_, fun h1 h2 h3 => ?_⟩
              · have hi0 : i = 0 := by
                  by_cases h : i = 0
                  · exact h
                  · have := hB8 (by omega); omega
                have hsl : sl = [] := List.length_eq_zero_iff.1 (by omega)
                intro _ p hp hx
                have := hs0 p hp (by rw [hx, hpc])
                rw [hsl] at this
                cases this
              · by_cases h : i = 0
                · exact .inl (hBz h)
                · exact .inr (hB8 (by omega))
              · refine hBg h1 h2 h3 ?_
                have := hs0 0 (by rw [h1]; omega) (by rw [← hpc, h1, h3])
                have := List.length_pos_of_mem this
                omega
            repeat (first | refine GC.exit ?_ | refine GE.then_exit ?_ | refine GE.block_hit ?_)
            refine GE.meet (f, k) hB2 (by simp only [fits]; repeat (first | exact trivial | refine And.intro rfl ?_)) (by repeat (first | exact Takes.nil | apply Takes.dup rfl | apply Takes.cons | exact Take1.here | apply Take1.there)) (by repeat (first | exact Subs.refl | refine Subs.skip ?_))
      · have hU : Un old now a := fun h => by omega
        repeat (first | (apply G.ex (hd := rfl); case h => (first | exact Ex.move rfl | exact Ex.add rfl rfl (by omega) | exact Ex.leq rfl rfl | exact Ex.lenSl rfl)) | refine G.nil ?_ | refine GC.seq ?_ | refine GC.region ?_ | refine GC.skip ?_ | refine GE.then_normal ?_ | refine GC.cond_no rfl (by first | assumption | omega) ?_)
        refine GE.meet (0, 0) (Best2.none hB0 hU) (by simp only [fits]; repeat (first | exact trivial | refine And.intro rfl ?_)) (by repeat (first | exact Takes.nil | apply Takes.dup rfl | apply Takes.cons | exact Take1.here | apply Take1.there)) (by repeat (first | exact Subs.refl | refine Subs.skip ?_))
    · rintro ⟨f, k⟩ hB2_ fr_ rs_ hfr_ hrs_
      simp only [List.cons_append, List.nil_append] at hfr_ hrs_
      subst hfr_ hrs_
      have hB2 : Best2 old now a f k := hB2_
      clear hB2_
      obtain ⟨b1, b2, b3, b4⟩ := hB2.b
      by_cases hk0 : 0 < k
      · have hcat : flat eC A ++ eC ⟨true, f, k, ⟨none, 0, 0, []⟩⟩ = flat eC (A ++ [⟨true, f, k, ⟨none, 0, 0, []⟩⟩]) := flat_snoc ..
        have hpb' : pbs old (A ++ [⟨true, (f : Int), (k : Int), ⟨none, 0, 0, []⟩⟩]) = now.take (a + k) := by
          rw [pbs_append, pbs_one, hpb, List.take_add]
          unfold pb
          simp only [Int.toNat_natCast, List.append_nil]
          rw [b4]
        have hD' : Dl old now (a + k) (A ++ [(⟨true, (f : Int), (k : Int), ⟨none, 0, 0, []⟩⟩ : Pc)]) := hD.copy (by rcases hB2.e with h | h <;> omega) (by omega) hB2.g rfl
        have hA' : ∀ p ∈ A ++ [(⟨true, (f : Int), (k : Int), ⟨none, 0, 0, []⟩⟩ : Pc)], Ok m p := by
          intro p hp
          rcases List.mem_append.1 hp with hp | hp
          · exact hA p hp
          · simp at hp; subst hp
            exact ⟨rfl, fun _ => rfl, fun h => by simp at h, ⟨by simp only; omega, by simp only; omega⟩, ⟨by simp only; omega, by simp only; omega⟩⟩
        repeat (first | (apply G.ex (hd := rfl); case h => (first | exact Ex.move rfl | exact Ex.fieldB rfl | exact Ex.loadB rfl rfl | exact Ex.gtr rfl rfl | exact Ex.loadBA rfl rfl rfl)) | refine G.nil ?_ | refine GC.seq ?_ | refine GC.region ?_ | refine GE.then_normal ?_ | refine GC.cond_yes rfl (by first | assumption | omega) ?_)
        refine G.lit rfl (by rfl) (by rfl) (by rfl) (by rfl) (by rfl) (by rfl) rfl (fun q => ?_)
        refine G.app rfl rfl (by rfl) (by omega) rfl (hcat) (fun o2 c2 rs_ hrs_ => ?_)
        try simp only at hrs_
        subst hrs_
        rw [show A.length + 1 = (A ++ [(⟨true, (f : Int), (k : Int), ⟨none, 0, 0, []⟩⟩ : Pc)]).length by simp]
        refine G.drop ?_
        refine G.nilvec 5 1 ?_
        refine G.conv (fun w_ H_ => Holds.starIn (H_.take (need := [.vec 5 1 none 0 0 [], .own (Star ((A.map Pc.d).map dvec))]) (by repeat (first | exact Takes.nil | apply Takes.dup rfl | apply Takes.cons | exact Take1.here | apply Take1.there)))) ?_
        try simp only [List.append_eq, List.nil_append, List.cons_append]
        refine G.conv (fun w_ H_ => Holds.starPerm (l' := ((A ++ [(⟨true, (f : Int), (k : Int), ⟨none, 0, 0, []⟩⟩ : Pc)]).map Pc.d).map dvec) (by
          rw [show ((A ++ [(⟨true, (f : Int), (k : Int), ⟨none, 0, 0, []⟩⟩ : Pc)]).map Pc.d).map dvec = (A.map Pc.d).map dvec ++ [dvec ⟨none, 0, 0, []⟩] by simp]
          exact (List.perm_append_singleton _ _).symm) H_) ?_
        repeat (first | (apply G.ex (hd := rfl); case h => (first | exact Ex.move rfl | exact Ex.fieldB rfl | exact Ex.loadB rfl rfl | exact Ex.add rfl rfl (by omega) | exact Ex.assign rfl)) | refine G.nil ?_ | refine GC.seq ?_ | refine GC.region ?_ | refine GC.exit ?_ | refine GE.then_normal ?_ | refine GE.then_exit ?_ | refine GE.block_hit ?_)
        rw [show (a : Int) + (k : Int) = ((a + k : Nat) : Int) by omega]
        refine GE.loop (a + k, A ++ [⟨true, (f : Int), (k : Int), ⟨none, 0, 0, []⟩⟩], o2, c2) ⟨by simp only; omega, hA', hpb', (by simp only [List.length_append, List.length_cons, List.length_nil]; omega), (fun h => by simp at h), hD'⟩ (by simp only; omega) (by simp only [fits]; repeat (first | exact trivial | refine And.intro rfl ?_)) (by repeat (first | exact Takes.nil | apply Takes.dup rfl | apply Takes.cons | exact Take1.here | apply Take1.there)) (by repeat (first | exact Subs.refl | refine Subs.skip ?_))
      · have hk00 : k = 0 := by omega
        subst hk00
        have hUn := hB2.u rfl
        have hx : now.take (a + 1) = now.take a ++ [now.getD a default] := take_snoc' now a (by omega)
        rcases (show A.length = 0 ∨ (¬ A.length = 0 ∧ (A.getD (((A.length : Nat) : Int) - 1).toNat default).copy = true) ∨ (∃ B q, A = B ++ [q] ∧ q.copy = false) from by
          rcases List.eq_nil_or_concat A with h | ⟨B, q, h⟩
          · left; rw [h]; rfl
          · right
            rw [List.concat_eq_append] at h
            cases hc : q.copy
            · exact .inr ⟨B, q, h, hc⟩
            · left
              subst h
              have hi : ((((B ++ [q]).length : Nat) : Int) - 1).toNat = B.length := by simp only [List.length_append, List.length_cons, List.length_nil]; omega
              rw [hi, List.getD_eq_getElem?_getD, List.getElem?_append_right (Nat.le_refl _), Nat.sub_self]
              exact ⟨by simp, hc⟩) with hl0 | ⟨hl0, hcp⟩ | ⟨B, q, hAB, hqc⟩
        · repeat (first | (apply G.ex (hd := rfl); case h => (first | exact Ex.move rfl | exact Ex.fieldB rfl | exact Ex.loadB rfl rfl | exact Ex.gtr rfl rfl | exact Ex.eqI rfl rfl | exact Ex.lenSl rfl | exact Ex.assign rfl | exact Ex.pickT rfl (by first | assumption | omega) rfl | exact Ex.build rfl rfl)) | refine G.g_ft rfl rfl (by first | assumption | omega) rfl ?_ | refine G.nil ?_ | refine GC.seq ?_ | refine GC.region ?_ | refine GC.skip ?_ | refine GE.then_normal ?_ | refine GC.cond_no rfl (by first | assumption | omega) ?_ | refine GC.cond_t rfl ?_)
          refine G.lit rfl (by rfl) (by rfl) (by rfl) (by rfl) (by rfl) (by rfl) rfl (fun q => ?_)
          have hcat : flat eC A ++ eC (⟨false, 0, 0, ⟨none, 0, 0, []⟩⟩ : Pc) = flat eC (A ++ [(⟨false, 0, 0, ⟨none, 0, 0, []⟩⟩ : Pc)]) := flat_snoc ..
          refine G.app rfl rfl (by rfl) (by omega) rfl (hcat) (fun o3 c3 rs_ hrs_ => ?_)
          try simp only at hrs_
          subst hrs_
          rw [show A.length + 1 = (A ++ [(⟨false, 0, 0, ⟨none, 0, 0, []⟩⟩ : Pc)]).length by simp]
          refine G.drop ?_
          refine G.nilvec 5 1 ?_
          refine G.conv (fun w_ H_ => Holds.starIn (H_.take (need := [.vec 5 1 none 0 0 [], .own (Star ((A.map Pc.d).map dvec))]) (by repeat (first | exact Takes.nil | apply Takes.dup rfl | apply Takes.cons | exact Take1.here | apply Take1.there)))) ?_
          try simp only [List.append_eq, List.nil_append, List.cons_append]
          refine G.conv (fun w_ H_ => Holds.starPerm (l' := ((A ++ [(⟨false, 0, 0, ⟨none, 0, 0, []⟩⟩ : Pc)]).map Pc.d).map dvec) (by
            rw [show ((A ++ [(⟨false, 0, 0, ⟨none, 0, 0, []⟩⟩ : Pc)]).map Pc.d).map dvec = (A.map Pc.d).map dvec ++ [dvec ⟨none, 0, 0, []⟩] by simp]
            exact (List.perm_append_singleton _ _).symm) H_) ?_
          have hLpb : pbs old (A ++ [(⟨false, 0, 0, ⟨none, 0, 0, []⟩⟩ : Pc)]) = now.take a := by rw [pbs_append, pbs_one, hpb]; simp [pb]
          have hLok : ∀ p ∈ A ++ [(⟨false, 0, 0, ⟨none, 0, 0, []⟩⟩ : Pc)], Ok m p := by
            intro p hp
            rcases List.mem_append.1 hp with hp | hp
            · exact hA p hp
            · simp only [List.mem_cons, List.not_mem_nil, or_false] at hp
              subst hp
              exact ⟨rfl, fun h => by simp at h, fun _ => ⟨rfl, rfl⟩, ⟨by simp only; omega, by simp only; omega⟩, ⟨by simp only; omega, by simp only; omega⟩⟩
          have hLl : (A ++ [(⟨false, 0, 0, ⟨none, 0, 0, []⟩⟩ : Pc)]).length ≤ a + 1 := by simp only [List.length_append, List.length_cons, List.length_nil]; omega
          have hex_ : ∃ x : Pc, x = (⟨false, 0, 0, ⟨none, 0, 0, []⟩⟩ : Pc) := ⟨_, rfl⟩
          obtain ⟨nw, hnw⟩ := hex_
          have hqc : nw.copy = false := by rw [hnw]
          have hnd0 : nw.d.l = [] := by rw [hnw]
          rw [← hnw] at hLpb hLok hLl ⊢
          clear hnw hcat
          have hlen1_ : 1 ≤ (A ++ [nw]).length := by simp
          have hidx : ((((A ++ [nw]).length : Nat) : Int) - 1).toNat = A.length := by simp only [List.length_append, List.length_cons, List.length_nil]; omega
          have hgq : (A ++ [nw]).getD A.length default = nw := by rw [List.getD_eq_getElem?_getD, List.getElem?_append_right (Nat.le_refl _), Nat.sub_self]; rfl
          have hqok := hLok nw (by simp)
          have hqn : nw.d.n ≤ a := by
            have h1 := congrArg List.length hLpb
            rw [pbs_append, pbs_one, List.length_append, List.length_take] at h1
            have h2 : (pb old nw).length = ((old.drop nw.from_.toNat).take nw.len.toNat).length + nw.d.l.length := by unfold pb; rw [List.length_append]
            have h3 := hqok.dl
            omega
          repeat (first | (apply G.ex (hd := rfl); case h => (first | exact Ex.move rfl | exact Ex.sub rfl rfl (by omega) | exact Ex.lenSl rfl | exact Ex.assign rfl | exact Ex.indexI rfl rfl (by omega))) | refine G.nil ?_ | refine GC.seq ?_ | refine GC.region ?_ | refine GE.then_normal ?_)
          rw [hidx]
          refine GC.conv (fun w_ H_ => Holds.starAt (i := A.length) (by simp) (H_.take (need := [.own (Star (((A ++ [nw]).map Pc.d).map dvec))]) (by repeat (first | exact Takes.nil | apply Takes.dup rfl | apply Takes.cons | exact Take1.here | apply Take1.there)))) ?_
          try simp only [List.append_eq, List.nil_append, List.cons_append]
          rw [show (((A ++ [nw]).map Pc.d).map dvec)[A.length]'(by simp) = Res.vec 5 1 nw.d.ao nw.d.n nw.d.c (flat eB nw.d.l) by simp [dvec]]
          refine GC.drawA [13] [.vec 31 4 o3 (A ++ [nw]).length c3 (flat eC (A ++ [nw])), .sl bo n d 1 (flat eB now)] (by repeat (first | exact Takes.nil | apply Takes.dup rfl | apply Takes.cons | exact Take1.here | apply Take1.there)) (by kernel_rfl) ?_
          first | (apply GA.take [] (hD := .inl rfl) (hsub := ⟨_, Takes.nil⟩) (i := 0) (hi := rfl) (hs := by kernel_rfl) (hfr := by kernel_rfl) (hr := by kernel_rfl) (hQ := (by repeat (first | exact NoPanic.fpost | apply NoPanic.then_ | apply NoPanic.block))) (hd := rfl); case hx => (first | exact Ex.move rfl))
          first | (apply GA.take [] (hD := .inl rfl) (hsub := ⟨_, Takes.nil⟩) (i := 1) (hi := rfl) (hs := by kernel_rfl) (hfr := by kernel_rfl) (hr := by kernel_rfl) (hQ := (by repeat (first | exact NoPanic.fpost | apply NoPanic.then_ | apply NoPanic.block))) (hd := rfl); case hx => (first | exact Ex.move rfl))
          first | (apply GA.take [] (hD := .inl rfl) (hsub := ⟨_, Takes.nil⟩) (i := 2) (hi := rfl) (hs := by kernel_rfl) (hfr := by kernel_rfl) (hr := by kernel_rfl) (hQ := (by repeat (first | exact NoPanic.fpost | apply NoPanic.then_ | apply NoPanic.block))) (hd := rfl); case hx => (first | exact Ex.nilCheck rfl))
          first | (apply GA.take [] (hD := .inl rfl) (hsub := ⟨_, Takes.nil⟩) (i := 3) (hi := rfl) (hs := by kernel_rfl) (hfr := by kernel_rfl) (hr := by kernel_rfl) (hQ := (by repeat (first | exact NoPanic.fpost | apply NoPanic.then_ | apply NoPanic.block))) (hd := rfl); case hx => (first | exact Ex.fieldE rfl))
          first | (apply GA.take _ (hD := .inr ⟨rfl, by kernel_rfl⟩) (hsub := ⟨_, (by repeat (first | exact Takes.nil | apply Takes.dup rfl | apply Takes.cons | exact Take1.here | apply Take1.there))⟩) (i := 4) (hi := rfl) (hs := by kernel_rfl) (hfr := by kernel_rfl) (hr := by kernel_rfl) (hQ := (by repeat (first | exact NoPanic.fpost | apply NoPanic.then_ | apply NoPanic.block))) (hd := rfl); case hx => (first | exact Ex.loadT rfl (by first | omega | (simp; done) | (simp; omega)) rfl))
          rw [hgq]
          first | (apply GA.take [] (hD := .inl rfl) (hsub := ⟨_, Takes.nil⟩) (i := 5) (hi := rfl) (hs := by kernel_rfl) (hfr := by kernel_rfl) (hr := by kernel_rfl) (hQ := (by repeat (first | exact NoPanic.fpost | apply NoPanic.then_ | apply NoPanic.block))) (hd := rfl); case hx => (first | exact Ex.move rfl))
          first | (apply GA.take [] (hD := .inl rfl) (hsub := ⟨_, Takes.nil⟩) (i := 6) (hi := rfl) (hs := by kernel_rfl) (hfr := by kernel_rfl) (hr := by kernel_rfl) (hQ := (by repeat (first | exact NoPanic.fpost | apply NoPanic.then_ | apply NoPanic.block))) (hd := rfl); case hx => (first | exact Ex.move rfl))
          first | (apply GA.take _ (hD := .inr ⟨rfl, by kernel_rfl⟩) (hsub := ⟨_, (by repeat (first | exact Takes.nil | apply Takes.dup rfl | apply Takes.cons | exact Take1.here | apply Take1.there))⟩) (i := 7) (hi := rfl) (hs := by kernel_rfl) (hfr := by kernel_rfl) (hr := by kernel_rfl) (hQ := (by repeat (first | exact NoPanic.fpost | apply NoPanic.then_ | apply NoPanic.block))) (hd := rfl); case hx => (first | exact Ex.indexN rfl rfl (by first | omega | (simp; done) | (simp; omega))))
          first | (apply GA.take _ (hD := .inr ⟨rfl, by kernel_rfl⟩) (hsub := ⟨_, (by repeat (first | exact Takes.nil | apply Takes.dup rfl | apply Takes.cons | exact Take1.here | apply Take1.there))⟩) (i := 8) (hi := rfl) (hs := by kernel_rfl) (hfr := by kernel_rfl) (hr := by kernel_rfl) (hQ := (by repeat (first | exact NoPanic.fpost | apply NoPanic.then_ | apply NoPanic.block))) (hd := rfl); case hx => (first | exact Ex.loadT0 rfl (by first | omega | (simp; done) | (simp; omega)) rfl))
          refine GA.one (i := 9) (by kernel_rfl) rfl ?_
          refine G.lit rfl (by rfl) (by rfl) (by rfl) (by rfl) (by rfl) (by rfl) rfl (fun y => ?_)
          try refine G.nil ?_
          refine GA.back (by first | exact .inl (by decide) | exact .inr ⟨_, (by repeat (first | exact Takes.nil | apply Takes.dup rfl | apply Takes.cons | exact Take1.here | apply Take1.there))⟩) ?_
          refine GA.one (i := 10) (by kernel_rfl) rfl ?_
          have hcat4 : flat eB nw.d.l ++ flat eB [now.getD a default] = flat eB (nw.d.l ++ [now.getD a default]) := (flat_append ..).symm
          refine G.app rfl rfl (by rfl) (by omega) rfl (hcat4) (fun o4 c4 rs_ hrs_ => ?_)
          try simp only at hrs_
          subst hrs_
          try refine G.nil ?_
          refine GA.back (by first | exact .inl (by decide) | exact .inr ⟨_, (by repeat (first | exact Takes.nil | apply Takes.dup rfl | apply Takes.cons | exact Take1.here | apply Take1.there))⟩) ?_
          first | (apply GA.take [] (hD := .inl rfl) (hsub := ⟨_, Takes.nil⟩) (i := 11) (hi := rfl) (hs := by kernel_rfl) (hfr := by kernel_rfl) (hr := by kernel_rfl) (hQ := (by repeat (first | exact NoPanic.fpost | apply NoPanic.then_ | apply NoPanic.block))) (hd := rfl); case hx => (first | exact Ex.nilCheck rfl))
          first | (apply GA.take [] (hD := .inl rfl) (hsub := ⟨_, Takes.nil⟩) (i := 12) (hi := rfl) (hs := by kernel_rfl) (hfr := by kernel_rfl) (hr := by kernel_rfl) (hQ := (by repeat (first | exact NoPanic.fpost | apply NoPanic.then_ | apply NoPanic.block))) (hd := rfl); case hx => (first | exact Ex.fieldE rfl))
          refine GA.one (i := 13) (by kernel_rfl) rfl ?_
          first | refine G.storeT0 rfl rfl rfl rfl (by first | omega | (simp; omega)) rfl ((⟨nw.copy, nw.from_, nw.len, ⟨o4, nw.d.n + 1, c4, nw.d.l ++ [now.getD a default]⟩⟩ : Pc)) ((by rw [hgq]; rfl)) (fun rs_ hrs_ => ?_) | refine G.storeT rfl rfl rfl rfl (by first | omega | (simp; omega)) rfl ((⟨nw.copy, nw.from_, nw.len, ⟨o4, nw.d.n + 1, c4, nw.d.l ++ [now.getD a default]⟩⟩ : Pc)) ((by rw [hgq]; rfl)) (fun rs_ hrs_ => ?_) | refine G.storeTA rfl rfl (by first | omega | (simp; omega)) rfl ((⟨nw.copy, nw.from_, nw.len, ⟨o4, nw.d.n + 1, c4, nw.d.l ++ [now.getD a default]⟩⟩ : Pc)) ((by rw [hgq]; rfl)) (fun rs_ hrs_ => ?_)
          try simp only at hrs_
          subst hrs_
          rw [show (A ++ [nw]).set A.length (⟨nw.copy, nw.from_, nw.len, ⟨o4, nw.d.n + 1, c4, nw.d.l ++ [now.getD a default]⟩⟩ : Pc) = A ++ [(⟨nw.copy, nw.from_, nw.len, ⟨o4, nw.d.n + 1, c4, nw.d.l ++ [now.getD a default]⟩⟩ : Pc)] by simp, show (A ++ [nw]).length = (A ++ [(⟨nw.copy, nw.from_, nw.len, ⟨o4, nw.d.n + 1, c4, nw.d.l ++ [now.getD a default]⟩⟩ : Pc)]).length by simp]
          refine G.conv (fun w_ H_ => Holds.starBack (by simp) (H_.take (need := [.vec 5 1 o4 (nw.d.n + 1) c4 (flat eB (nw.d.l ++ [now.getD a default])), .own (Star ((((A ++ [nw]).map Pc.d).map dvec).eraseIdx A.length))]) (by repeat (first | exact Takes.nil | apply Takes.dup rfl | apply Takes.cons | exact Take1.here | apply Take1.there)))) ?_
          try simp only [List.append_eq, List.nil_append, List.cons_append]
          rw [show (((A ++ [nw]).map Pc.d).map dvec).set A.length (.vec 5 1 o4 (nw.d.n + 1) c4 (flat eB (nw.d.l ++ [now.getD a default]))) = ((A ++ [(⟨nw.copy, nw.from_, nw.len, ⟨o4, nw.d.n + 1, c4, nw.d.l ++ [now.getD a default]⟩⟩ : Pc)]).map Pc.d).map dvec by simp [dvec]]
          have hpb' : pbs old (A ++ [(⟨nw.copy, nw.from_, nw.len, ⟨o4, nw.d.n + 1, c4, nw.d.l ++ [now.getD a default]⟩⟩ : Pc)]) = now.take (a + 1) := by
            rw [hx, ← hLpb, pbs_append, pbs_append, pbs_one, pbs_one, List.append_assoc]
            unfold pb
            simp
          have hDl : Dl old now (a + 1) (A ++ [(⟨nw.copy, nw.from_, nw.len, ⟨o4, nw.d.n + 1, c4, nw.d.l ++ [now.getD a default]⟩⟩ : Pc)]) := hD.lit hUn (by omega) (by rw [told_snoc]; simp only [hnd0, List.nil_append, List.length_singleton]) (fun p hp hc => by rcases List.mem_append.1 hp with hp | hp; exact hp; simp only [List.mem_cons, List.not_mem_nil, or_false] at hp; subst hp; simp only at hc; rw [hqc] at hc; cases hc)
          have hok' : ∀ p ∈ A ++ [(⟨nw.copy, nw.from_, nw.len, ⟨o4, nw.d.n + 1, c4, nw.d.l ++ [now.getD a default]⟩⟩ : Pc)], Ok m p := by
            intro p hp
            rcases List.mem_append.1 hp with hp | hp
            · exact hLok p (List.mem_append_left _ hp)
            · simp only [List.mem_cons, List.not_mem_nil, or_false] at hp
              subst hp
              exact ⟨by simp only [List.length_append, List.length_cons, List.length_nil]; have := hqok.dl; omega, fun h => (by simp only at h; rw [hqc] at h; cases h), hqok.nc, hqok.f0, hqok.l0⟩
          have hll' : (A ++ [(⟨nw.copy, nw.from_, nw.len, ⟨o4, nw.d.n + 1, c4, nw.d.l ++ [now.getD a default]⟩⟩ : Pc)]).length ≤ a + 1 := by simp only [List.length_append, List.length_cons, List.length_nil] at hLl ⊢; omega
          try refine G.nil ?_
          refine GA.back (by first | exact .inl (by decide) | exact .inr ⟨_, (by repeat (first | exact Takes.nil | apply Takes.dup rfl | apply Takes.cons | exact Take1.here | apply Take1.there))⟩) ?_
          refine GA.done (by kernel_rfl) ?_
          repeat (first | (apply G.ex (hd := rfl); case h => (first | exact Ex.move rfl | exact Ex.add rfl rfl (by omega) | exact Ex.assign rfl)) | refine G.nil ?_ | refine GC.region ?_ | refine GE.then_normal ?_ | refine GE.block_normal ?_)
          rw [show (a : Int) + 1 = ((a + 1 : Nat) : Int) by omega]
          refine GE.loop (a + 1, A ++ [(⟨nw.copy, nw.from_, nw.len, ⟨o4, nw.d.n + 1, c4, nw.d.l ++ [now.getD a default]⟩⟩ : Pc)], o3, c3) ⟨by simp only; omega, hok', hpb', hll', (fun h => by simp at h), hDl⟩ (by simp only; omega) (by simp only [fits]; repeat (first | exact trivial | refine And.intro rfl ?_)) (by repeat (first | exact Takes.nil | apply Takes.dup rfl | apply Takes.cons | exact Take1.here | apply Take1.there)) (by repeat (first | exact Subs.refl | refine Subs.skip ?_))
        · repeat (first | (apply G.ex (hd := rfl); case h => (first | exact Ex.move rfl | exact Ex.fieldE rfl | exact Ex.fieldB rfl | exact Ex.loadB rfl rfl | exact Ex.sub rfl rfl (by omega) | exact Ex.gtr rfl rfl | exact Ex.eqI rfl rfl | exact Ex.lenSl rfl | exact Ex.loadT0 rfl (by first | omega | (simp; done) | (simp; omega)) rfl | exact Ex.assign rfl | exact Ex.pickF rfl (by first | assumption | omega) rfl | exact Ex.indexI rfl rfl (by omega))) | refine G.g_ff rfl rfl (by first | assumption | omega) ?_ | refine G.nil ?_ | refine GC.seq ?_ | refine GC.region ?_ | refine GC.skip ?_ | refine GE.then_normal ?_ | refine GC.cond_no rfl (by first | assumption | omega) ?_)
          rw [hcp]
          repeat (first | (apply G.ex (hd := rfl); case h => (first | exact Ex.move rfl | exact Ex.build rfl rfl)) | refine GC.region ?_ | refine GC.cond_t rfl ?_)
          refine G.lit rfl (by rfl) (by rfl) (by rfl) (by rfl) (by rfl) (by rfl) rfl (fun q => ?_)
          have hcat : flat eC A ++ eC (⟨false, 0, 0, ⟨none, 0, 0, []⟩⟩ : Pc) = flat eC (A ++ [(⟨false, 0, 0, ⟨none, 0, 0, []⟩⟩ : Pc)]) := flat_snoc ..
          refine G.app rfl rfl (by rfl) (by omega) rfl (hcat) (fun o3 c3 rs_ hrs_ => ?_)
          try simp only at hrs_
          subst hrs_
          rw [show A.length + 1 = (A ++ [(⟨false, 0, 0, ⟨none, 0, 0, []⟩⟩ : Pc)]).length by simp]
          refine G.drop ?_
          refine G.nilvec 5 1 ?_
          refine G.conv (fun w_ H_ => Holds.starIn (H_.take (need := [.vec 5 1 none 0 0 [], .own (Star ((A.map Pc.d).map dvec))]) (by repeat (first | exact Takes.nil | apply Takes.dup rfl | apply Takes.cons | exact Take1.here | apply Take1.there)))) ?_
          try simp only [List.append_eq, List.nil_append, List.cons_append]
          refine G.conv (fun w_ H_ => Holds.starPerm (l' := ((A ++ [(⟨false, 0, 0, ⟨none, 0, 0, []⟩⟩ : Pc)]).map Pc.d).map dvec) (by
            rw [show ((A ++ [(⟨false, 0, 0, ⟨none, 0, 0, []⟩⟩ : Pc)]).map Pc.d).map dvec = (A.map Pc.d).map dvec ++ [dvec ⟨none, 0, 0, []⟩] by simp]
            exact (List.perm_append_singleton _ _).symm) H_) ?_
          have hLpb : pbs old (A ++ [(⟨false, 0, 0, ⟨none, 0, 0, []⟩⟩ : Pc)]) = now.take a := by rw [pbs_append, pbs_one, hpb]; simp [pb]
          have hLok : ∀ p ∈ A ++ [(⟨false, 0, 0, ⟨none, 0, 0, []⟩⟩ : Pc)], Ok m p := by
            intro p hp
            rcases List.mem_append.1 hp with hp | hp
            · exact hA p hp
            · simp only [List.mem_cons, List.not_mem_nil, or_false] at hp
              subst hp
              exact ⟨rfl, fun h => by simp at h, fun _ => ⟨rfl, rfl⟩, ⟨by simp only; omega, by simp only; omega⟩, ⟨by simp only; omega, by simp only; omega⟩⟩
          have hLl : (A ++ [(⟨false, 0, 0, ⟨none, 0, 0, []⟩⟩ : Pc)]).length ≤ a + 1 := by simp only [List.length_append, List.length_cons, List.length_nil]; omega
          have hex_ : ∃ x : Pc, x = (⟨false, 0, 0, ⟨none, 0, 0, []⟩⟩ : Pc) := ⟨_, rfl⟩
          obtain ⟨nw, hnw⟩ := hex_
          have hqc : nw.copy = false := by rw [hnw]
          have hnd0 : nw.d.l = [] := by rw [hnw]
          rw [← hnw] at hLpb hLok hLl ⊢
          clear hnw hcat
          have hlen1_ : 1 ≤ (A ++ [nw]).length := by simp
          have hidx : ((((A ++ [nw]).length : Nat) : Int) - 1).toNat = A.length := by simp only [List.length_append, List.length_cons, List.length_nil]; omega
          have hgq : (A ++ [nw]).getD A.length default = nw := by rw [List.getD_eq_getElem?_getD, List.getElem?_append_right (Nat.le_refl _), Nat.sub_self]; rfl
          have hqok := hLok nw (by simp)
          have hqn : nw.d.n ≤ a := by
            have h1 := congrArg List.length hLpb
            rw [pbs_append, pbs_one, List.length_append, List.length_take] at h1
            have h2 : (pb old nw).length = ((old.drop nw.from_.toNat).take nw.len.toNat).length + nw.d.l.length := by unfold pb; rw [List.length_append]
            have h3 := hqok.dl
            omega
          repeat (first | (apply G.ex (hd := rfl); case h => (first | exact Ex.move rfl | exact Ex.sub rfl rfl (by omega) | exact Ex.lenSl rfl | exact Ex.assign rfl | exact Ex.indexI rfl rfl (by omega))) | refine G.nil ?_ | refine GC.seq ?_ | refine GC.region ?_ | refine GE.then_normal ?_)
          rw [hidx]
          refine GC.conv (fun w_ H_ => Holds.starAt (i := A.length) (by simp) (H_.take (need := [.own (Star (((A ++ [nw]).map Pc.d).map dvec))]) (by repeat (first | exact Takes.nil | apply Takes.dup rfl | apply Takes.cons | exact Take1.here | apply Take1.there)))) ?_
          try simp only [List.append_eq, List.nil_append, List.cons_append]
          rw [show (((A ++ [nw]).map Pc.d).map dvec)[A.length]'(by simp) = Res.vec 5 1 nw.d.ao nw.d.n nw.d.c (flat eB nw.d.l) by simp [dvec]]
          refine GC.drawA [13] [.vec 31 4 o3 (A ++ [nw]).length c3 (flat eC (A ++ [nw])), .sl bo n d 1 (flat eB now)] (by repeat (first | exact Takes.nil | apply Takes.dup rfl | apply Takes.cons | exact Take1.here | apply Take1.there)) (by kernel_rfl) ?_
          first | (apply GA.take [] (hD := .inl rfl) (hsub := ⟨_, Takes.nil⟩) (i := 0) (hi := rfl) (hs := by kernel_rfl) (hfr := by kernel_rfl) (hr := by kernel_rfl) (hQ := (by repeat (first | exact NoPanic.fpost | apply NoPanic.then_ | apply NoPanic.block))) (hd := rfl); case hx => (first | exact Ex.move rfl))
          first | (apply GA.take [] (hD := .inl rfl) (hsub := ⟨_, Takes.nil⟩) (i := 1) (hi := rfl) (hs := by kernel_rfl) (hfr := by kernel_rfl) (hr := by kernel_rfl) (hQ := (by repeat (first | exact NoPanic.fpost | apply NoPanic.then_ | apply NoPanic.block))) (hd := rfl); case hx => (first | exact Ex.move rfl))
          first | (apply GA.take [] (hD := .inl rfl) (hsub := ⟨_, Takes.nil⟩) (i := 2) (hi := rfl) (hs := by kernel_rfl) (hfr := by kernel_rfl) (hr := by kernel_rfl) (hQ := (by repeat (first | exact NoPanic.fpost | apply NoPanic.then_ | apply NoPanic.block))) (hd := rfl); case hx => (first | exact Ex.nilCheck rfl))
          first | (apply GA.take [] (hD := .inl rfl) (hsub := ⟨_, Takes.nil⟩) (i := 3) (hi := rfl) (hs := by kernel_rfl) (hfr := by kernel_rfl) (hr := by kernel_rfl) (hQ := (by repeat (first | exact NoPanic.fpost | apply NoPanic.then_ | apply NoPanic.block))) (hd := rfl); case hx => (first | exact Ex.fieldE rfl))
          first | (apply GA.take _ (hD := .inr ⟨rfl, by kernel_rfl⟩) (hsub := ⟨_, (by repeat (first | exact Takes.nil | apply Takes.dup rfl | apply Takes.cons | exact Take1.here | apply Take1.there))⟩) (i := 4) (hi := rfl) (hs := by kernel_rfl) (hfr := by kernel_rfl) (hr := by kernel_rfl) (hQ := (by repeat (first | exact NoPanic.fpost | apply NoPanic.then_ | apply NoPanic.block))) (hd := rfl); case hx => (first | exact Ex.loadT rfl (by first | omega | (simp; done) | (simp; omega)) rfl))
          rw [hgq]
          first | (apply GA.take [] (hD := .inl rfl) (hsub := ⟨_, Takes.nil⟩) (i := 5) (hi := rfl) (hs := by kernel_rfl) (hfr := by kernel_rfl) (hr := by kernel_rfl) (hQ := (by repeat (first | exact NoPanic.fpost | apply NoPanic.then_ | apply NoPanic.block))) (hd := rfl); case hx => (first | exact Ex.move rfl))
          first | (apply GA.take [] (hD := .inl rfl) (hsub := ⟨_, Takes.nil⟩) (i := 6) (hi := rfl) (hs := by kernel_rfl) (hfr := by kernel_rfl) (hr := by kernel_rfl) (hQ := (by repeat (first | exact NoPanic.fpost | apply NoPanic.then_ | apply NoPanic.block))) (hd := rfl); case hx => (first | exact Ex.move rfl))
          first | (apply GA.take _ (hD := .inr ⟨rfl, by kernel_rfl⟩) (hsub := ⟨_, (by repeat (first | exact Takes.nil | apply Takes.dup rfl | apply Takes.cons | exact Take1.here | apply Take1.there))⟩) (i := 7) (hi := rfl) (hs := by kernel_rfl) (hfr := by kernel_rfl) (hr := by kernel_rfl) (hQ := (by repeat (first | exact NoPanic.fpost | apply NoPanic.then_ | apply NoPanic.block))) (hd := rfl); case hx => (first | exact Ex.indexN rfl rfl (by first | omega | (simp; done) | (simp; omega))))
          first | (apply GA.take _ (hD := .inr ⟨rfl, by kernel_rfl⟩) (hsub := ⟨_, (by repeat (first | exact Takes.nil | apply Takes.dup rfl | apply Takes.cons | exact Take1.here | apply Take1.there))⟩) (i := 8) (hi := rfl) (hs := by kernel_rfl) (hfr := by kernel_rfl) (hr := by kernel_rfl) (hQ := (by repeat (first | exact NoPanic.fpost | apply NoPanic.then_ | apply NoPanic.block))) (hd := rfl); case hx => (first | exact Ex.loadT0 rfl (by first | omega | (simp; done) | (simp; omega)) rfl))
          refine GA.one (i := 9) (by kernel_rfl) rfl ?_
          refine G.lit rfl (by rfl) (by rfl) (by rfl) (by rfl) (by rfl) (by rfl) rfl (fun y => ?_)
          try refine G.nil ?_
          refine GA.back (by first | exact .inl (by decide) | exact .inr ⟨_, (by repeat (first | exact Takes.nil | apply Takes.dup rfl | apply Takes.cons | exact Take1.here | apply Take1.there))⟩) ?_
          refine GA.one (i := 10) (by kernel_rfl) rfl ?_
          have hcat4 : flat eB nw.d.l ++ flat eB [now.getD a default] = flat eB (nw.d.l ++ [now.getD a default]) := (flat_append ..).symm
          refine G.app rfl rfl (by rfl) (by omega) rfl (hcat4) (fun o4 c4 rs_ hrs_ => ?_)
          try simp only at hrs_
          subst hrs_
          try refine G.nil ?_
          refine GA.back (by first | exact .inl (by decide) | exact .inr ⟨_, (by repeat (first | exact Takes.nil | apply Takes.dup rfl | apply Takes.cons | exact Take1.here | apply Take1.there))⟩) ?_
          first | (apply GA.take [] (hD := .inl rfl) (hsub := ⟨_, Takes.nil⟩) (i := 11) (hi := rfl) (hs := by kernel_rfl) (hfr := by kernel_rfl) (hr := by kernel_rfl) (hQ := (by repeat (first | exact NoPanic.fpost | apply NoPanic.then_ | apply NoPanic.block))) (hd := rfl); case hx => (first | exact Ex.nilCheck rfl))
          first | (apply GA.take [] (hD := .inl rfl) (hsub := ⟨_, Takes.nil⟩) (i := 12) (hi := rfl) (hs := by kernel_rfl) (hfr := by kernel_rfl) (hr := by kernel_rfl) (hQ := (by repeat (first | exact NoPanic.fpost | apply NoPanic.then_ | apply NoPanic.block))) (hd := rfl); case hx => (first | exact Ex.fieldE rfl))
          refine GA.one (i := 13) (by kernel_rfl) rfl ?_
          first | refine G.storeT0 rfl rfl rfl rfl (by first | omega | (simp; omega)) rfl ((⟨nw.copy, nw.from_, nw.len, ⟨o4, nw.d.n + 1, c4, nw.d.l ++ [now.getD a default]⟩⟩ : Pc)) ((by rw [hgq]; rfl)) (fun rs_ hrs_ => ?_) | refine G.storeT rfl rfl rfl rfl (by first | omega | (simp; omega)) rfl ((⟨nw.copy, nw.from_, nw.len, ⟨o4, nw.d.n + 1, c4, nw.d.l ++ [now.getD a default]⟩⟩ : Pc)) ((by rw [hgq]; rfl)) (fun rs_ hrs_ => ?_) | refine G.storeTA rfl rfl (by first | omega | (simp; omega)) rfl ((⟨nw.copy, nw.from_, nw.len, ⟨o4, nw.d.n + 1, c4, nw.d.l ++ [now.getD a default]⟩⟩ : Pc)) ((by rw [hgq]; rfl)) (fun rs_ hrs_ => ?_)
          try simp only at hrs_
          subst hrs_
          rw [show (A ++ [nw]).set A.length (⟨nw.copy, nw.from_, nw.len, ⟨o4, nw.d.n + 1, c4, nw.d.l ++ [now.getD a default]⟩⟩ : Pc) = A ++ [(⟨nw.copy, nw.from_, nw.len, ⟨o4, nw.d.n + 1, c4, nw.d.l ++ [now.getD a default]⟩⟩ : Pc)] by simp, show (A ++ [nw]).length = (A ++ [(⟨nw.copy, nw.from_, nw.len, ⟨o4, nw.d.n + 1, c4, nw.d.l ++ [now.getD a default]⟩⟩ : Pc)]).length by simp]
          refine G.conv (fun w_ H_ => Holds.starBack (by simp) (H_.take (need := [.vec 5 1 o4 (nw.d.n + 1) c4 (flat eB (nw.d.l ++ [now.getD a default])), .own (Star ((((A ++ [nw]).map Pc.d).map dvec).eraseIdx A.length))]) (by repeat (first | exact Takes.nil | apply Takes.dup rfl | apply Takes.cons | exact Take1.here | apply Take1.there)))) ?_
          try simp only [List.append_eq, List.nil_append, List.cons_append]
          rw [show (((A ++ [nw]).map Pc.d).map dvec).set A.length (.vec 5 1 o4 (nw.d.n + 1) c4 (flat eB (nw.d.l ++ [now.getD a default]))) = ((A ++ [(⟨nw.copy, nw.from_, nw.len, ⟨o4, nw.d.n + 1, c4, nw.d.l ++ [now.getD a default]⟩⟩ : Pc)]).map Pc.d).map dvec by simp [dvec]]
          have hpb' : pbs old (A ++ [(⟨nw.copy, nw.from_, nw.len, ⟨o4, nw.d.n + 1, c4, nw.d.l ++ [now.getD a default]⟩⟩ : Pc)]) = now.take (a + 1) := by
            rw [hx, ← hLpb, pbs_append, pbs_append, pbs_one, pbs_one, List.append_assoc]
            unfold pb
            simp
          have hDl : Dl old now (a + 1) (A ++ [(⟨nw.copy, nw.from_, nw.len, ⟨o4, nw.d.n + 1, c4, nw.d.l ++ [now.getD a default]⟩⟩ : Pc)]) := hD.lit hUn (by omega) (by rw [told_snoc]; simp only [hnd0, List.nil_append, List.length_singleton]) (fun p hp hc => by rcases List.mem_append.1 hp with hp | hp; exact hp; simp only [List.mem_cons, List.not_mem_nil, or_false] at hp; subst hp; simp only at hc; rw [hqc] at hc; cases hc)
          have hok' : ∀ p ∈ A ++ [(⟨nw.copy, nw.from_, nw.len, ⟨o4, nw.d.n + 1, c4, nw.d.l ++ [now.getD a default]⟩⟩ : Pc)], Ok m p := by
            intro p hp
            rcases List.mem_append.1 hp with hp | hp
            · exact hLok p (List.mem_append_left _ hp)
            · simp only [List.mem_cons, List.not_mem_nil, or_false] at hp
              subst hp
              exact ⟨by simp only [List.length_append, List.length_cons, List.length_nil]; have := hqok.dl; omega, fun h => (by simp only at h; rw [hqc] at h; cases h), hqok.nc, hqok.f0, hqok.l0⟩
          have hll' : (A ++ [(⟨nw.copy, nw.from_, nw.len, ⟨o4, nw.d.n + 1, c4, nw.d.l ++ [now.getD a default]⟩⟩ : Pc)]).length ≤ a + 1 := by simp only [List.length_append, List.length_cons, List.length_nil] at hLl ⊢; omega
          try refine G.nil ?_
          refine GA.back (by first | exact .inl (by decide) | exact .inr ⟨_, (by repeat (first | exact Takes.nil | apply Takes.dup rfl | apply Takes.cons | exact Take1.here | apply Take1.there))⟩) ?_
          refine GA.done (by kernel_rfl) ?_
          repeat (first | (apply G.ex (hd := rfl); case h => (first | exact Ex.move rfl | exact Ex.add rfl rfl (by omega) | exact Ex.assign rfl)) | refine G.nil ?_ | refine GC.region ?_ | refine GE.then_normal ?_ | refine GE.block_normal ?_)
          rw [show (a : Int) + 1 = ((a + 1 : Nat) : Int) by omega]
          refine GE.loop (a + 1, A ++ [(⟨nw.copy, nw.from_, nw.len, ⟨o4, nw.d.n + 1, c4, nw.d.l ++ [now.getD a default]⟩⟩ : Pc)], o3, c3) ⟨by simp only; omega, hok', hpb', hll', (fun h => by simp at h), hDl⟩ (by simp only; omega) (by simp only [fits]; repeat (first | exact trivial | refine And.intro rfl ?_)) (by repeat (first | exact Takes.nil | apply Takes.dup rfl | apply Takes.cons | exact Take1.here | apply Take1.there)) (by repeat (first | exact Subs.refl | refine Subs.skip ?_))
        · subst hAB
          have hcp : ((B ++ [q]).getD ((((B ++ [q]).length : Nat) : Int) - 1).toNat default).copy = false := by
            rw [show ((((B ++ [q]).length : Nat) : Int) - 1).toNat = B.length by simp only [List.length_append, List.length_cons, List.length_nil]; omega, List.getD_eq_getElem?_getD, List.getElem?_append_right (Nat.le_refl _), Nat.sub_self]
            exact hqc
          have hl0 : ¬ (B ++ [q]).length = 0 := by simp
          have hLpb := hpb
          have hLok := hA
          have hLl : (B ++ [q]).length ≤ a + 1 := by omega
          repeat (first | (apply G.ex (hd := rfl); case h => (first | exact Ex.move rfl | exact Ex.fieldE rfl | exact Ex.fieldB rfl | exact Ex.loadB rfl rfl | exact Ex.sub rfl rfl (by omega) | exact Ex.gtr rfl rfl | exact Ex.eqI rfl rfl | exact Ex.lenSl rfl | exact Ex.loadT0 rfl (by first | omega | (simp; done) | (simp; omega)) rfl | exact Ex.assign rfl | exact Ex.pickF rfl (by first | assumption | omega) rfl | exact Ex.indexI rfl rfl (by omega))) | refine G.g_ff rfl rfl (by first | assumption | omega) ?_ | refine G.nil ?_ | refine GC.seq ?_ | refine GC.region ?_ | refine GC.skip ?_ | refine GE.then_normal ?_ | refine GC.cond_no rfl (by first | assumption | omega) ?_)
          rw [hcp]
          have hlen1_ : 1 ≤ (B ++ [q]).length := by simp
          have hidx : ((((B ++ [q]).length : Nat) : Int) - 1).toNat = B.length := by simp only [List.length_append, List.length_cons, List.length_nil]; omega
          have hgq : (B ++ [q]).getD B.length default = q := by rw [List.getD_eq_getElem?_getD, List.getElem?_append_right (Nat.le_refl _), Nat.sub_self]; rfl
          have hqok := hLok q (by simp)
          have hqn : q.d.n ≤ a := by
            have h1 := congrArg List.length hLpb
            rw [pbs_append, pbs_one, List.length_append, List.length_take] at h1
            have h2 : (pb old q).length = ((old.drop q.from_.toNat).take q.len.toNat).length + q.d.l.length := by unfold pb; rw [List.length_append]
            have h3 := hqok.dl
            omega
          repeat (first | (apply G.ex (hd := rfl); case h => (first | exact Ex.move rfl | exact Ex.sub rfl rfl (by omega) | exact Ex.lenSl rfl | exact Ex.assign rfl | exact Ex.indexI rfl rfl (by omega))) | refine G.nil ?_ | refine GC.seq ?_ | refine GC.region ?_ | refine GC.skip ?_ | refine GE.then_normal ?_ | refine GC.cond_f rfl ?_)
          rw [hidx]
          refine GC.conv (fun w_ H_ => Holds.starAt (i := B.length) (by simp) (H_.take (need := [.own (Star (((B ++ [q]).map Pc.d).map dvec))]) (by repeat (first | exact Takes.nil | apply Takes.dup rfl | apply Takes.cons | exact Take1.here | apply Take1.there)))) ?_
          try simp only [List.append_eq, List.nil_append, List.cons_append]
          rw [show (((B ++ [q]).map Pc.d).map dvec)[B.length]'(by simp) = Res.vec 5 1 q.d.ao q.d.n q.d.c (flat eB q.d.l) by simp [dvec]]
          refine GC.drawA [13] [.vec 31 4 oa (B ++ [q]).length oc (flat eC (B ++ [q])), .sl bo n d 1 (flat eB now)] (by repeat (first | exact Takes.nil | apply Takes.dup rfl | apply Takes.cons | exact Take1.here | apply Take1.there)) (by kernel_rfl) ?_
          first | (apply GA.take [] (hD := .inl rfl) (hsub := ⟨_, Takes.nil⟩) (i := 0) (hi := rfl) (hs := by kernel_rfl) (hfr := by kernel_rfl) (hr := by kernel_rfl) (hQ := (by repeat (first | exact NoPanic.fpost | apply NoPanic.then_ | apply NoPanic.block))) (hd := rfl); case hx => (first | exact Ex.move rfl))
          first | (apply GA.take [] (hD := .inl rfl) (hsub := ⟨_, Takes.nil⟩) (i := 1) (hi := rfl) (hs := by kernel_rfl) (hfr := by kernel_rfl) (hr := by kernel_rfl) (hQ := (by repeat (first | exact NoPanic.fpost | apply NoPanic.then_ | apply NoPanic.block))) (hd := rfl); case hx => (first | exact Ex.move rfl))
          first | (apply GA.take [] (hD := .inl rfl) (hsub := ⟨_, Takes.nil⟩) (i := 2) (hi := rfl) (hs := by kernel_rfl) (hfr := by kernel_rfl) (hr := by kernel_rfl) (hQ := (by repeat (first | exact NoPanic.fpost | apply NoPanic.then_ | apply NoPanic.block))) (hd := rfl); case hx => (first | exact Ex.nilCheck rfl))
          first | (apply GA.take [] (hD := .inl rfl) (hsub := ⟨_, Takes.nil⟩) (i := 3) (hi := rfl) (hs := by kernel_rfl) (hfr := by kernel_rfl) (hr := by kernel_rfl) (hQ := (by repeat (first | exact NoPanic.fpost | apply NoPanic.then_ | apply NoPanic.block))) (hd := rfl); case hx => (first | exact Ex.fieldE rfl))
          first | (apply GA.take _ (hD := .inr ⟨rfl, by kernel_rfl⟩) (hsub := ⟨_, (by repeat (first | exact Takes.nil | apply Takes.dup rfl | apply Takes.cons | exact Take1.here | apply Take1.there))⟩) (i := 4) (hi := rfl) (hs := by kernel_rfl) (hfr := by kernel_rfl) (hr := by kernel_rfl) (hQ := (by repeat (first | exact NoPanic.fpost | apply NoPanic.then_ | apply NoPanic.block))) (hd := rfl); case hx => (first | exact Ex.loadT rfl (by first | omega | (simp; done) | (simp; omega)) rfl))
          rw [hgq]
          first | (apply GA.take [] (hD := .inl rfl) (hsub := ⟨_, Takes.nil⟩) (i := 5) (hi := rfl) (hs := by kernel_rfl) (hfr := by kernel_rfl) (hr := by kernel_rfl) (hQ := (by repeat (first | exact NoPanic.fpost | apply NoPanic.then_ | apply NoPanic.block))) (hd := rfl); case hx => (first | exact Ex.move rfl))
          first | (apply GA.take [] (hD := .inl rfl) (hsub := ⟨_, Takes.nil⟩) (i := 6) (hi := rfl) (hs := by kernel_rfl) (hfr := by kernel_rfl) (hr := by kernel_rfl) (hQ := (by repeat (first | exact NoPanic.fpost | apply NoPanic.then_ | apply NoPanic.block))) (hd := rfl); case hx => (first | exact Ex.move rfl))
          first | (apply GA.take _ (hD := .inr ⟨rfl, by kernel_rfl⟩) (hsub := ⟨_, (by repeat (first | exact Takes.nil | apply Takes.dup rfl | apply Takes.cons | exact Take1.here | apply Take1.there))⟩) (i := 7) (hi := rfl) (hs := by kernel_rfl) (hfr := by kernel_rfl) (hr := by kernel_rfl) (hQ := (by repeat (first | exact NoPanic.fpost | apply NoPanic.then_ | apply NoPanic.block))) (hd := rfl); case hx => (first | exact Ex.indexN rfl rfl (by first | omega | (simp; done) | (simp; omega))))
          first | (apply GA.take _ (hD := .inr ⟨rfl, by kernel_rfl⟩) (hsub := ⟨_, (by repeat (first | exact Takes.nil | apply Takes.dup rfl | apply Takes.cons | exact Take1.here | apply Take1.there))⟩) (i := 8) (hi := rfl) (hs := by kernel_rfl) (hfr := by kernel_rfl) (hr := by kernel_rfl) (hQ := (by repeat (first | exact NoPanic.fpost | apply NoPanic.then_ | apply NoPanic.block))) (hd := rfl); case hx => (first | exact Ex.loadT0 rfl (by first | omega | (simp; done) | (simp; omega)) rfl))
          refine GA.one (i := 9) (by kernel_rfl) rfl ?_
          refine G.lit rfl (by rfl) (by rfl) (by rfl) (by rfl) (by rfl) (by rfl) rfl (fun y => ?_)
          try refine G.nil ?_
          refine GA.back (by first | exact .inl (by decide) | exact .inr ⟨_, (by repeat (first | exact Takes.nil | apply Takes.dup rfl | apply Takes.cons | exact Take1.here | apply Take1.there))⟩) ?_
          refine GA.one (i := 10) (by kernel_rfl) rfl ?_
          have hcat4 : flat eB q.d.l ++ flat eB [now.getD a default] = flat eB (q.d.l ++ [now.getD a default]) := (flat_append ..).symm
          refine G.app rfl rfl (by rfl) (by omega) rfl (hcat4) (fun o4 c4 rs_ hrs_ => ?_)
          try simp only at hrs_
          subst hrs_
          try refine G.nil ?_
          refine GA.back (by first | exact .inl (by decide) | exact .inr ⟨_, (by repeat (first | exact Takes.nil | apply Takes.dup rfl | apply Takes.cons | exact Take1.here | apply Take1.there))⟩) ?_
          first | (apply GA.take [] (hD := .inl rfl) (hsub := ⟨_, Takes.nil⟩) (i := 11) (hi := rfl) (hs := by kernel_rfl) (hfr := by kernel_rfl) (hr := by kernel_rfl) (hQ := (by repeat (first | exact NoPanic.fpost | apply NoPanic.then_ | apply NoPanic.block))) (hd := rfl); case hx => (first | exact Ex.nilCheck rfl))
          first | (apply GA.take [] (hD := .inl rfl) (hsub := ⟨_, Takes.nil⟩) (i := 12) (hi := rfl) (hs := by kernel_rfl) (hfr := by kernel_rfl) (hr := by kernel_rfl) (hQ := (by repeat (first | exact NoPanic.fpost | apply NoPanic.then_ | apply NoPanic.block))) (hd := rfl); case hx => (first | exact Ex.fieldE rfl))
          refine GA.one (i := 13) (by kernel_rfl) rfl ?_
          first | refine G.storeT0 rfl rfl rfl rfl (by first | omega | (simp; omega)) rfl ((⟨q.copy, q.from_, q.len, ⟨o4, q.d.n + 1, c4, q.d.l ++ [now.getD a default]⟩⟩ : Pc)) ((by rw [hgq]; rfl)) (fun rs_ hrs_ => ?_) | refine G.storeT rfl rfl rfl rfl (by first | omega | (simp; omega)) rfl ((⟨q.copy, q.from_, q.len, ⟨o4, q.d.n + 1, c4, q.d.l ++ [now.getD a default]⟩⟩ : Pc)) ((by rw [hgq]; rfl)) (fun rs_ hrs_ => ?_) | refine G.storeTA rfl rfl (by first | omega | (simp; omega)) rfl ((⟨q.copy, q.from_, q.len, ⟨o4, q.d.n + 1, c4, q.d.l ++ [now.getD a default]⟩⟩ : Pc)) ((by rw [hgq]; rfl)) (fun rs_ hrs_ => ?_)
          try simp only at hrs_
          subst hrs_
          rw [show (B ++ [q]).set B.length (⟨q.copy, q.from_, q.len, ⟨o4, q.d.n + 1, c4, q.d.l ++ [now.getD a default]⟩⟩ : Pc) = B ++ [(⟨q.copy, q.from_, q.len, ⟨o4, q.d.n + 1, c4, q.d.l ++ [now.getD a default]⟩⟩ : Pc)] by simp, show (B ++ [q]).length = (B ++ [(⟨q.copy, q.from_, q.len, ⟨o4, q.d.n + 1, c4, q.d.l ++ [now.getD a default]⟩⟩ : Pc)]).length by simp]
          refine G.conv (fun w_ H_ => Holds.starBack (by simp) (H_.take (need := [.vec 5 1 o4 (q.d.n + 1) c4 (flat eB (q.d.l ++ [now.getD a default])), .own (Star ((((B ++ [q]).map Pc.d).map dvec).eraseIdx B.length))]) (by repeat (first | exact Takes.nil | apply Takes.dup rfl | apply Takes.cons | exact Take1.here | apply Take1.there)))) ?_
          try simp only [List.append_eq, List.nil_append, List.cons_append]
          rw [show (((B ++ [q]).map Pc.d).map dvec).set B.length (.vec 5 1 o4 (q.d.n + 1) c4 (flat eB (q.d.l ++ [now.getD a default]))) = ((B ++ [(⟨q.copy, q.from_, q.len, ⟨o4, q.d.n + 1, c4, q.d.l ++ [now.getD a default]⟩⟩ : Pc)]).map Pc.d).map dvec by simp [dvec]]
          have hpb' : pbs old (B ++ [(⟨q.copy, q.from_, q.len, ⟨o4, q.d.n + 1, c4, q.d.l ++ [now.getD a default]⟩⟩ : Pc)]) = now.take (a + 1) := by
            rw [hx, ← hLpb, pbs_append, pbs_append, pbs_one, pbs_one, List.append_assoc]
            unfold pb
            simp
          have hDl : Dl old now (a + 1) (B ++ [(⟨q.copy, q.from_, q.len, ⟨o4, q.d.n + 1, c4, q.d.l ++ [now.getD a default]⟩⟩ : Pc)]) := hD.lit hUn (by omega) (by rw [told_snoc, told_snoc]; simp only [List.length_append, List.length_singleton]; omega) (fun p hp hc => by rcases List.mem_append.1 hp with hp | hp; exact List.mem_append_left _ hp; simp only [List.mem_cons, List.not_mem_nil, or_false] at hp; subst hp; simp only at hc; rw [hqc] at hc; cases hc)
          have hok' : ∀ p ∈ B ++ [(⟨q.copy, q.from_, q.len, ⟨o4, q.d.n + 1, c4, q.d.l ++ [now.getD a default]⟩⟩ : Pc)], Ok m p := by
            intro p hp
            rcases List.mem_append.1 hp with hp | hp
            · exact hLok p (List.mem_append_left _ hp)
            · simp only [List.mem_cons, List.not_mem_nil, or_false] at hp
              subst hp
              exact ⟨by simp only [List.length_append, List.length_cons, List.length_nil]; have := hqok.dl; omega, fun h => (by simp only at h; rw [hqc] at h; cases h), hqok.nc, hqok.f0, hqok.l0⟩
          have hll' : (B ++ [(⟨q.copy, q.from_, q.len, ⟨o4, q.d.n + 1, c4, q.d.l ++ [now.getD a default]⟩⟩ : Pc)]).length ≤ a + 1 := by simp only [List.length_append, List.length_cons, List.length_nil] at hLl ⊢; omega
          try refine G.nil ?_
          refine GA.back (by first | exact .inl (by decide) | exact .inr ⟨_, (by repeat (first | exact Takes.nil | apply Takes.dup rfl | apply Takes.cons | exact Take1.here | apply Take1.there))⟩) ?_
          refine GA.done (by kernel_rfl) ?_
          repeat (first | (apply G.ex (hd := rfl); case h => (first | exact Ex.move rfl | exact Ex.add rfl rfl (by omega) | exact Ex.assign rfl)) | refine G.nil ?_ | refine GC.region ?_ | refine GE.then_normal ?_ | refine GE.block_normal ?_)
          rw [show (a : Int) + 1 = ((a + 1 : Nat) : Int) by omega]
          refine GE.loop (a + 1, B ++ [(⟨q.copy, q.from_, q.len, ⟨o4, q.d.n + 1, c4, q.d.l ++ [now.getD a default]⟩⟩ : Pc)], oa, oc) ⟨by simp only; omega, hok', hpb', hll', (fun h => by simp at h), hDl⟩ (by simp only; omega) (by simp only [fits]; repeat (first | exact trivial | refine And.intro rfl ?_)) (by repeat (first | exact Takes.nil | apply Takes.dup rfl | apply Takes.cons | exact Take1.here | apply Take1.there)) (by repeat (first | exact Subs.refl | refine Subs.skip ?_))
  · have hae : a = n := by omega
    subst hae
    rw [List.take_of_length_le (by omega)] at hpb
    repeat (first | (apply G.ex (hd := rfl); case h => (first | exact Ex.move rfl | exact Ex.assign rfl)) | refine G.nil ?_ | refine GC.seq ?_ | refine GC.region ?_ | refine GC.ret ?_ | refine GC.exit ?_ | refine GE.then_normal ?_ | refine GE.then_exit ?_ | refine GE.block_hit ?_)
    first | refine G.frz oa ?_ | refine GC.frz oa ?_ | refine GE.frz oa ?_
    refine GE.conv (fun w_ H_ => Holds.starFrz (H_.take (need := [.own (Star ((A.map Pc.d).map dvec))]) (by repeat (first | exact Takes.nil | apply Takes.dup rfl | apply Takes.cons | exact Take1.here | apply Take1.there)))) ?_
    try simp only [List.append_eq, List.nil_append, List.cons_append]
    refine GE.ret (by first | exact .inl rfl | exact .inr rfl) (by first | exact res0 Try.results7 | exact res1 Try.results7 rfl | exact res2 Try.results7 rfl rfl | exact resR1 Try.results7 (by first | exact RV.tmp rfl | exact RV.cell rfl rfl | exact RV.cell1 rfl) | exact resR2 Try.results7 (by first | exact RV.tmp rfl | exact RV.cell rfl rfl | exact RV.cell1 rfl) (by first | exact RV.tmp rfl | exact RV.cell rfl rfl | exact RV.cell1 rfl) | exact resR3 Try.results7 (by first | exact RV.tmp rfl | exact RV.cell rfl rfl | exact RV.cell1 rfl) (by first | exact RV.tmp rfl | exact RV.cell rfl rfl | exact RV.cell1 rfl) (by first | exact RV.tmp rfl | exact RV.cell rfl rfl | exact RV.cell1 rfl)) ⟨oa, oc, A, rfl, hA, hpb, hAl, hA0, hD, rfl⟩ (by repeat (first | exact Takes.nil | apply Takes.dup rfl | apply Takes.cons | exact Take1.here | apply Take1.there)) (by repeat (first | exact Subs.refl | refine Subs.skip ?_))
end delta
end Go.Proofs.Ytablmmihngfeaaa
