/-
  CONTRACT of hole.Sacks, by the kit.
-/
import Derived.Test.YtcllddkhnbnigaaBack
import Derived.Test.YtcllddkhnbnigaaPlainM
namespace Go.Proofs.Ytcllddkhnbnigaa
open Go.RowKit
attribute [local irreducible] Ex G GC GE Gq FPost LPost
set_option linter.unusedVariables false
set_option linter.unusedSimpArgs false
namespace hole
theorem flat_cutR (l : List R) (a b : Nat) : ((flat eR l).drop (a * 2)).take ((b - a) * 2) = flat eR ((l.drop a).take (b - a)) := by
  rw [flat_drop (inferInstance : Enc eR 2), flat_take (inferInstance : Enc eR 2)]
def oL (x : Int) (l : List R) (k : Nat) : List R := (l.drop k).reverse.filter (inx x)
def pL (x : Int) (l : List R) (k : Nat) : List R := (l.drop k).reverse.filter fun r => !inx x r
theorem rev_at (l : List R) (k : Nat) (h : k < l.length) : (l.drop k).reverse = (l.drop (k + 1)).reverse ++ [l.getD k default] := by
  rw [List.drop_eq_getElem_cons h, List.reverse_cons, List.getD_eq_getElem?_getD, List.getElem?_eq_getElem h]; rfl
theorem oL_yes {x : Int} {l : List R} {k : Nat} (h : k < l.length) (hx : inx x (l.getD k default) = true) : oL x l k = oL x l (k + 1) ++ [l.getD k default] ∧ pL x l k = pL x l (k + 1) := by
  unfold oL pL
  rw [rev_at l k h, List.filter_append, List.filter_append, List.filter_cons, List.filter_cons, if_pos hx, if_neg (by rw [hx]; decide)]
  simp
theorem oL_no {x : Int} {l : List R} {k : Nat} (h : k < l.length) (hx : inx x (l.getD k default) = false) : oL x l k = oL x l (k + 1) ∧ pL x l k = pL x l (k + 1) ++ [l.getD k default] := by
  unfold oL pL
  rw [rev_at l k h, List.filter_append, List.filter_append, List.filter_cons, List.filter_cons, if_neg (by rw [hx]; decide), if_pos (by rw [hx]; rfl)]
  simp
set_option maxHeartbeats 4000000 in
theorem sacks_sp (r : Res) (d : Int) (ao : Option Addr) (n c : Nat) (l : List R) [hr : RdR r ao n c 2 (flat eR l)] (hl : l.length = n) (hm : May d l) (x : Int) (k : Nat) (hk : k ≤ 16) :
    Spec Try.prog 43 [.int .i64 d, .slice ao n c, .int .i64 x, .int .i64 (k : Int)] [r] fun v give => ∃ o m oc, m = (sacks x l k).length ∧ v = .tuple #[.slice o m oc, .int .i64 0] ∧ give = [.sl o m oc 2 (flat eR (sacks x l k)), r] := by
  have hn := hm.len
  have htt : ¬ ¬ true = true := fun h => h rfl
  refine Spec.introM Try.func43 rfl Try.ntmps43 rfl fun w0 rest rs_ hrs_ => ?_
  simp only [List.cons_append, List.nil_append] at hrs_
  subst hrs_
  repeat (first | refine GC.seq ?_ | refine GC.region ?_)
  refine G.box rfl rfl rfl (fun lb => ?_)
  repeat (first | (apply G.ex (hd := rfl); case h => (first | exact Ex.move rfl | exact Ex.assign rfl)) | refine G.nil ?_ | refine GC.seq ?_ | refine GC.region ?_ | refine GE.then_normal ?_)
  first | refine G.call (caps := []) (may_sp r d ao n c l hl hm) rfl rfl rfl rfl (by repeat first | exact tn_ | apply td_ rfl | apply tc_ | exact .here | apply Take1.there) ?_ | refine G.callU (caps := []) (may_sp r d ao n c l hl hm) rfl rfl rfl (by repeat first | exact tn_ | apply td_ rfl | apply tc_ | exact .here | apply Take1.there) ?_
  rintro v_ give_ ⟨rfl, rfl⟩ rs_ hrs_
  simp only [List.cons_append, List.nil_append] at hrs_
  subst hrs_
  repeat (first | (apply G.ex (hd := rfl); case h => (first | exact Ex.move rfl | exact Ex.lss rfl rfl | exact Ex.gtr rfl rfl | exact Ex.notB rfl | exact Ex.pickF rfl (by first | assumption | omega) rfl)) | refine G.g_ff rfl rfl (by first | assumption | omega) ?_ | refine G.nil ?_ | refine GC.seq ?_ | refine GC.region ?_ | refine GC.skip ?_ | refine GE.then_normal ?_ | refine GC.cond_no rfl (by first | assumption | omega) ?_)
  refine G.alloc rfl (fun ob => ?_)
  repeat (first | refine G.storeB rfl rfl rfl rfl rfl ?_ | refine G.storeBA rfl rfl rfl rfl rfl ?_ | (apply G.ex (hd := rfl); case h => (first | exact Ex.move rfl | exact Ex.nilCheck rfl | exact Ex.lenO rfl | exact Ex.indexO rfl rfl (by omega) | exact Ex.eqO rfl rfl | exact Ex.neO rfl rfl | exact Ex.subLo rfl rfl (by omega) | exact Ex.subHi rfl rfl (by omega) | exact Ex.subMid rfl rfl rfl (by omega) | exact Ex.addO rfl rfl (by omega) | exact Ex.indexPE rfl rfl (by first | omega | (simp; done) | (simp; omega)) | exact Ex.indexPB rfl rfl (by first | omega | (simp; done) | (simp; omega)) | exact Ex.loadP rfl (by omega) | exact Ex.loadPW rfl | exact Ex.loadRP rfl (by first | omega | (simp; done) | (simp; omega)) (by omega) | exact Ex.bld0 | exact Ex.bldR | exact Ex.fieldE rfl | exact Ex.fieldB rfl | exact Ex.loadB rfl rfl | exact Ex.add rfl rfl (by omega) | exact Ex.sub rfl rfl (by omega) | exact Ex.lss rfl rfl | exact Ex.leq rfl rfl | exact Ex.gtr rfl rfl | exact Ex.geq rfl rfl | exact Ex.eqBy rfl rfl | exact Ex.neBy rfl rfl | exact Ex.eqI rfl rfl | exact Ex.neI rfl rfl | exact Ex.lenSl rfl | exact Ex.indexN rfl rfl (by first | omega | (simp; done) | (simp; omega)) | exact Ex.loadT0 rfl (by first | omega | (simp; done) | (simp; omega)) rfl | exact Ex.loadT rfl (by first | omega | (simp; done) | (simp; omega)) rfl | exact Ex.extract rfl rfl | exact Ex.field rfl rfl | exact Ex.assign rfl | exact Ex.min rfl rfl | exact Ex.min3 rfl rfl rfl | exact Ex.max rfl rfl | exact Ex.quo rfl rfl (by omega) | exact Ex.quotB rfl rfl (by omega) | exact Ex.rem rfl rfl (by omega) | exact Ex.mul rfl rfl (by omega) | exact Ex.remt rfl rfl (by omega) | exact Ex.notD rfl | exact Ex.notB rfl | exact Ex.eqS rfl rfl | exact Ex.neS rfl rfl | exact Ex.eqB rfl rfl | exact Ex.neB rfl rfl | exact Ex.lenS rfl | exact Ex.indexS rfl rfl (by first | omega | (simp; done) | (simp; omega)) | exact Ex.neg rfl (by omega) | exact Ex.convS rfl | exact Ex.pickT rfl (by first | assumption | omega) rfl | exact Ex.pickF rfl (by first | assumption | omega) rfl | exact Ex.loadBA rfl rfl rfl | exact Ex.loadTA rfl (by first | omega | (simp; done) | (simp; omega)) | exact Ex.build rfl rfl | exact Ex.pickLT rfl rfl | exact Ex.pickLF rfl rfl | exact Ex.eqA rfl rfl rfl | exact Ex.neA rfl rfl rfl | exact Ex.pick rfl rfl rfl | exact Ex.indexI rfl rfl (by omega) | exact Ex.conv64b rfl | exact Ex.conv64 rfl (by omega) | exact Ex.conv8 rfl | exact Ex.conv16 rfl | exact Ex.shr8 rfl rfl | exact Ex.shr16 rfl rfl | exact Ex.shr24 rfl rfl | exact Ex.shl8b rfl rfl | exact Ex.shl8 rfl rfl (by omega) | exact Ex.orBbb rfl rfl | exact Ex.orBb rfl rfl (by omega) | exact Ex.orB rfl rfl (by omega) | exact Ex.and16 rfl rfl (by omega) | exact Ex.eqNil rfl rfl | exact Ex.neNil rfl rfl | exact Ex.mkFunc rfl | exact Ex.capSl rfl | exact Ex.arrPtr rfl (by omega) | exact Ex.loadArI rfl (by assumption) rfl | exact Ex.eqArrI rfl rfl (by assumption) (by assumption) | exact Ex.loadAr rfl rfl rfl rfl | exact Ex.indexArr rfl rfl (by first | omega | (simp; done) | (simp; omega)) | exact Ex.buildArr rfl rfl | exact Ex.indexV rfl rfl rfl rfl (by omega) | exact Ex.shlK rfl rfl (by omega) | exact Ex.orK rfl rfl (by omega) | exact Ex.shrK rfl rfl (by omega) | exact Ex.andS rfl rfl | exact Ex.andS (k := 0) rfl rfl | exact Ex.andK rfl rfl (by omega) | exact Ex.xorB rfl rfl | exact Ex.and rfl rfl | exact Ex.slHi rfl rfl (by omega) | exact Ex.slLo rfl rfl (by omega) | exact Ex.slLH rfl rfl rfl (by omega) | exact Ex.sl3 rfl rfl rfl rfl (by omega) | exact Ex.convBO rfl (by omega) | exact Ex.loadB rfl (by assumption) | exact Ex.eqP0 rfl rfl | exact Ex.neP0 rfl rfl | exact Ex.nePB rfl rfl)) | refine G.g_tt rfl rfl (by first | assumption | omega) ?_ | refine G.g_tf rfl rfl (by first | assumption | omega) rfl ?_ | refine G.g_ft rfl rfl (by first | assumption | omega) rfl ?_ | refine G.g_ff rfl rfl (by first | assumption | omega) ?_ | refine G.g_un rfl rfl rfl ?_ | refine G.yes rfl rfl ?_ | refine G.l_tf rfl rfl rfl ?_ | refine G.l_ft rfl rfl rfl ?_ | refine G.nil ?_ | (apply Gq.ex (hd := rfl); case h => (first | exact Ex.move rfl | exact Ex.nilCheck rfl | exact Ex.lenO rfl | exact Ex.indexO rfl rfl (by omega) | exact Ex.eqO rfl rfl | exact Ex.neO rfl rfl | exact Ex.subLo rfl rfl (by omega) | exact Ex.subHi rfl rfl (by omega) | exact Ex.subMid rfl rfl rfl (by omega) | exact Ex.addO rfl rfl (by omega) | exact Ex.indexPE rfl rfl (by first | omega | (simp; done) | (simp; omega)) | exact Ex.indexPB rfl rfl (by first | omega | (simp; done) | (simp; omega)) | exact Ex.loadP rfl (by omega) | exact Ex.loadPW rfl | exact Ex.loadRP rfl (by first | omega | (simp; done) | (simp; omega)) (by omega) | exact Ex.bld0 | exact Ex.bldR | exact Ex.fieldE rfl | exact Ex.fieldB rfl | exact Ex.loadB rfl rfl | exact Ex.add rfl rfl (by omega) | exact Ex.sub rfl rfl (by omega) | exact Ex.lss rfl rfl | exact Ex.leq rfl rfl | exact Ex.gtr rfl rfl | exact Ex.geq rfl rfl | exact Ex.eqBy rfl rfl | exact Ex.neBy rfl rfl | exact Ex.eqI rfl rfl | exact Ex.neI rfl rfl | exact Ex.lenSl rfl | exact Ex.indexN rfl rfl (by first | omega | (simp; done) | (simp; omega)) | exact Ex.loadT0 rfl (by first | omega | (simp; done) | (simp; omega)) rfl | exact Ex.loadT rfl (by first | omega | (simp; done) | (simp; omega)) rfl | exact Ex.extract rfl rfl | exact Ex.field rfl rfl | exact Ex.assign rfl | exact Ex.min rfl rfl | exact Ex.min3 rfl rfl rfl | exact Ex.max rfl rfl | exact Ex.quo rfl rfl (by omega) | exact Ex.quotB rfl rfl (by omega) | exact Ex.rem rfl rfl (by omega) | exact Ex.mul rfl rfl (by omega) | exact Ex.remt rfl rfl (by omega) | exact Ex.notD rfl | exact Ex.notB rfl | exact Ex.eqS rfl rfl | exact Ex.neS rfl rfl | exact Ex.eqB rfl rfl | exact Ex.neB rfl rfl | exact Ex.lenS rfl | exact Ex.indexS rfl rfl (by first | omega | (simp; done) | (simp; omega)) | exact Ex.neg rfl (by omega) | exact Ex.convS rfl | exact Ex.pickT rfl (by first | assumption | omega) rfl | exact Ex.pickF rfl (by first | assumption | omega) rfl | exact Ex.loadBA rfl rfl rfl | exact Ex.loadTA rfl (by first | omega | (simp; done) | (simp; omega)) | exact Ex.build rfl rfl | exact Ex.pickLT rfl rfl | exact Ex.pickLF rfl rfl | exact Ex.eqA rfl rfl rfl | exact Ex.neA rfl rfl rfl | exact Ex.pick rfl rfl rfl | exact Ex.indexI rfl rfl (by omega) | exact Ex.conv64b rfl | exact Ex.conv64 rfl (by omega) | exact Ex.conv8 rfl | exact Ex.conv16 rfl | exact Ex.shr8 rfl rfl | exact Ex.shr16 rfl rfl | exact Ex.shr24 rfl rfl | exact Ex.shl8b rfl rfl | exact Ex.shl8 rfl rfl (by omega) | exact Ex.orBbb rfl rfl | exact Ex.orBb rfl rfl (by omega) | exact Ex.orB rfl rfl (by omega) | exact Ex.and16 rfl rfl (by omega) | exact Ex.eqNil rfl rfl | exact Ex.neNil rfl rfl | exact Ex.mkFunc rfl | exact Ex.capSl rfl | exact Ex.arrPtr rfl (by omega) | exact Ex.loadArI rfl (by assumption) rfl | exact Ex.eqArrI rfl rfl (by assumption) (by assumption) | exact Ex.loadAr rfl rfl rfl rfl | exact Ex.indexArr rfl rfl (by first | omega | (simp; done) | (simp; omega)) | exact Ex.buildArr rfl rfl | exact Ex.indexV rfl rfl rfl rfl (by omega) | exact Ex.shlK rfl rfl (by omega) | exact Ex.orK rfl rfl (by omega) | exact Ex.shrK rfl rfl (by omega) | exact Ex.andS rfl rfl | exact Ex.andS (k := 0) rfl rfl | exact Ex.andK rfl rfl (by omega) | exact Ex.xorB rfl rfl | exact Ex.and rfl rfl | exact Ex.slHi rfl rfl (by omega) | exact Ex.slLo rfl rfl (by omega) | exact Ex.slLH rfl rfl rfl (by omega) | exact Ex.sl3 rfl rfl rfl rfl (by omega) | exact Ex.convBO rfl (by omega) | exact Ex.loadB rfl (by assumption) | exact Ex.eqP0 rfl rfl | exact Ex.neP0 rfl rfl | exact Ex.nePB rfl rfl)) | refine Gq.g_tt rfl rfl (by first | assumption | omega) ?_ | refine Gq.g_tf rfl rfl (by first | assumption | omega) rfl ?_ | refine Gq.g_ft rfl rfl (by first | assumption | omega) rfl ?_ | refine Gq.g_ff rfl rfl (by first | assumption | omega) ?_ | refine Gq.g_un rfl rfl rfl ?_ | refine Gq.yes rfl rfl ?_ | refine Gq.l_tf rfl rfl rfl ?_ | refine Gq.l_ft rfl rfl rfl ?_ | refine Gq.nil ?_ | refine GC.seq ?_ | refine GC.region ?_ | refine GC.block ?_ | refine GC.skip ?_ | refine GC.ret ?_ | refine GC.exit ?_ | refine GE.then_normal ?_ | refine GE.then_ret ?_ | refine GE.then_exit ?_ | refine GE.block_normal ?_ | refine GE.block_ret ?_ | refine GE.block_hit ?_ | refine GE.block_miss rfl ?_ | refine GC.cond_yes rfl (by first | assumption | omega) ?_ | refine GC.cond_no rfl (by first | assumption | omega) ?_ | refine GC.cond_t rfl ?_ | refine GC.cond_f rfl ?_ | refine GC.scope ?_ | refine GE.ng_normal ?_ | refine GE.ng_ret ?_ | refine GE.ng_exit ?_ | refine GC.label ?_)
  refine G.alloc rfl (fun pb => ?_)
  repeat (first | (apply G.ex (hd := rfl); case h => (first | exact Ex.move rfl)) | refine G.nil ?_ | refine GC.seq ?_ | refine GC.region ?_ | refine GE.then_normal ?_)
  first | refine G.call (caps := []) (backward_sp ao n c) rfl rfl rfl rfl (by repeat first | exact tn_ | apply td_ rfl | apply tc_ | exact .here | apply Take1.there) ?_ | refine G.callU (caps := []) (backward_sp ao n c) rfl rfl rfl (by repeat first | exact tn_ | apply td_ rfl | apply tc_ | exact .here | apply Take1.there) ?_
  rintro v_ give_ ⟨b, rfl, rfl⟩ rs_ hrs_
  simp only [List.cons_append, List.nil_append] at hrs_
  subst hrs_
  first | refine G.nilvec 102 2 ?_ | refine GC.nilvec 102 2 ?_
  first | refine G.nilvec 102 2 ?_ | refine GC.nilvec 102 2 ?_
  repeat (first | refine G.nil ?_ | refine GC.block ?_ | refine GE.then_normal ?_)
  refine GC.rangeFunc (caps := [.pointer (some (badr b 0))]) (need := .blk b 61 [.slice ao n c] :: r :: [.blk lb 3 [.int .i64 x], .blk ob 61 [.slice none 0 0], .vec 102 2 none 0 0 [], .blk pb 61 [.slice none 0 0], .vec 102 2 none 0 0 []]) (post := fun _ g => ∃ i : List R × List R × (Option Addr × Nat) × (Option Addr × Nat), (i.1 = oL x l 0 ∧ i.2.1 = pL x l 0) ∧ g = .blk b 61 [.slice ao n c] :: r :: [.blk lb 3 [.int .i64 x], .blk ob 61 [.slice i.2.2.1.1 i.1.length i.2.2.1.2], .vec 102 2 i.2.2.1.1 i.1.length i.2.2.1.2 (flat eR i.1), .blk pb 61 [.slice i.2.2.2.1 i.2.1.length i.2.2.2.2], .vec 102 2 i.2.2.2.1 i.2.1.length i.2.2.2.2 (flat eR i.2.1)]) rfl (fun yl rec_ hst hpn hps hass hbody hfr => ?_) (by repeat first | exact tn_ | apply td_ rfl | apply tc_ | exact .here | apply Take1.there) ?_
  · refine (back1_sp r ao n c l hl (by omega) b yl rec_ (κ := List R × List R × (Option Addr × Nat) × (Option Addr × Nat)) (fun k i => i.1 = oL x l k ∧ i.2.1 = pL x l k) (fun i => [.blk lb 3 [.int .i64 x], .blk ob 61 [.slice i.2.2.1.1 i.1.length i.2.2.1.2], .vec 102 2 i.2.2.1.1 i.1.length i.2.2.1.2 (flat eR i.1), .blk pb 61 [.slice i.2.2.2.1 i.2.1.length i.2.2.2.2], .vec 102 2 i.2.2.2.1 i.2.1.length i.2.2.2.2 (flat eR i.2.1)]) ?_ ([], [], (none, 0), (none, 0)) ⟨?_, ?_⟩).mono ?_
    · rintro j ⟨O, Q, ⟨o, oc⟩, ⟨p, pc⟩⟩ hj ⟨h1, h2⟩
      simp only at h1 h2
      refine YSpec.two hps hfr rfl rfl fun w1 rest1 rs1 hrs1 => ?_
      simp only [List.cons_append, List.nil_append] at hrs1
      subst hrs1
      rw [hass, hbody]
      repeat (first | refine GRC.region rfl ?_)
      refine G.alloc rfl (fun tb => ?_)
      repeat (first | refine GE.nrm ?_ | refine G.storeBA rfl rfl rfl rfl rfl ?_ | refine G.nil ?_)
      refine GE.begin hst (by repeat first | exact tn_ | apply td_ rfl | apply tc_ | exact .here | apply Take1.there) ?_
      have hlen : l.length = n := hl
      have hOl : O.length ≤ 16 := by rw [h1]; exact Nat.le_trans (List.length_filter_le ..) (by rw [List.length_reverse, List.length_drop]; omega)
      have hQl : Q.length ≤ 16 := by rw [h2]; exact Nat.le_trans (List.length_filter_le ..) (by rw [List.length_reverse, List.length_drop]; omega)
      by_cases hx : inx x (l.getD j default) = true
      · obtain ⟨g1, g2⟩ := oL_yes (by omega) hx
        obtain ⟨q1, q2⟩ := (inx_iff _ _).1 hx
        have hcat : flat eR O ++ flat eR [l.getD j default] = flat eR (oL x l j) := by rw [← flat_append, g1, h1]
        repeat (first | refine GRC.seq ?_ | refine GRC.region rfl ?_ | refine GRC.block ?_ | refine GE.nrm ?_ | refine GE.thenR ?_ | refine GRC.cond_yes rfl (by first | assumption | omega) ?_ | (apply G.ex (hd := rfl); case h => (first | exact Ex.move rfl | exact Ex.fieldB rfl | exact Ex.loadB rfl rfl | exact Ex.lss rfl rfl | exact Ex.leq rfl rfl | exact Ex.pickT rfl (by first | assumption | omega) rfl | exact Ex.loadBA rfl rfl rfl)) | refine G.g_tt rfl rfl (by first | assumption | omega) ?_ | refine G.nil ?_)
        refine G.lit rfl (by rfl) (by rfl) (by rfl) (by rfl) (by rfl) (by rfl) rfl (fun q => ?_)
        refine G.app rfl rfl (by rfl) (by omega) rfl (hcat) (fun o2 c2 rs_ hrs_ => ?_)
        try simp only at hrs_
        subst hrs_
        repeat (first | refine GE.nrm ?_ | refine G.storeB rfl rfl rfl rfl rfl ?_ | refine G.nil ?_ | refine GE.block_normal ?_)
        rw [show O.length + 1 = (oL x l j).length by rw [g1, ← h1, List.length_append]; rfl]
        refine GE.endR hst hpn ⟨(oL x l j, Q, (o2, c2), (p, pc)), ⟨rfl, by rw [g2]; exact h2⟩, rfl⟩ (by repeat first | exact tn_ | apply td_ rfl | apply tc_ | exact .here | apply Take1.there) (by repeat (first | exact Subs.refl | refine Subs.skip ?_))
      · have hx' : inx x (l.getD j default) = false := by simpa using hx
        obtain ⟨g1, g2⟩ := oL_no (by omega) hx'
        have hcat : flat eR Q ++ flat eR [l.getD j default] = flat eR (pL x l j) := by rw [← flat_append, g2, h2]
        by_cases q1 : (l.getD j default).1 ≤ x
        · have q2 : ¬ x < (l.getD j default).2 := fun q2 => hx ((inx_iff _ _).2 ⟨q1, q2⟩)
          repeat (first | refine GRC.seq ?_ | refine GRC.region rfl ?_ | refine GRC.block ?_ | refine GE.nrm ?_ | refine GE.thenR ?_ | refine GRC.cond_no rfl (by first | assumption | omega) ?_ | (apply G.ex (hd := rfl); case h => (first | exact Ex.move rfl | exact Ex.fieldB rfl | exact Ex.loadB rfl rfl | exact Ex.lss rfl rfl | exact Ex.leq rfl rfl | exact Ex.pickT rfl (by first | assumption | omega) rfl | exact Ex.loadBA rfl rfl rfl)) | refine G.g_tt rfl rfl (by first | assumption | omega) ?_ | refine G.nil ?_)
          refine G.lit rfl (by rfl) (by rfl) (by rfl) (by rfl) (by rfl) (by rfl) rfl (fun q => ?_)
          refine G.app rfl rfl (by rfl) (by omega) rfl (hcat) (fun o2 c2 rs_ hrs_ => ?_)
          try simp only at hrs_
          subst hrs_
          repeat (first | refine GE.nrm ?_ | refine G.storeB rfl rfl rfl rfl rfl ?_ | refine G.nil ?_ | refine GE.block_normal ?_)
          rw [show Q.length + 1 = (pL x l j).length by rw [g2, ← h2, List.length_append]; rfl]
          refine GE.endR hst hpn ⟨(O, pL x l j, (o, oc), (o2, c2)), ⟨by rw [g1]; exact h1, rfl⟩, rfl⟩ (by repeat first | exact tn_ | apply td_ rfl | apply tc_ | exact .here | apply Take1.there) (by repeat (first | exact Subs.refl | refine Subs.skip ?_))
        · repeat (first | refine GRC.seq ?_ | refine GRC.region rfl ?_ | refine GRC.block ?_ | refine GE.nrm ?_ | refine GE.thenR ?_ | refine GRC.cond_f rfl ?_ | (apply G.ex (hd := rfl); case h => (first | exact Ex.move rfl | exact Ex.fieldB rfl | exact Ex.loadB rfl rfl | exact Ex.leq rfl rfl | exact Ex.pickF rfl (by first | assumption | omega) rfl | exact Ex.loadBA rfl rfl rfl)) | refine G.g_tf rfl rfl (by first | assumption | omega) rfl ?_ | refine G.nil ?_)
          refine G.lit rfl (by rfl) (by rfl) (by rfl) (by rfl) (by rfl) (by rfl) rfl (fun q => ?_)
          refine G.app rfl rfl (by rfl) (by omega) rfl (hcat) (fun o2 c2 rs_ hrs_ => ?_)
          try simp only at hrs_
          subst hrs_
          repeat (first | refine GE.nrm ?_ | refine G.storeB rfl rfl rfl rfl rfl ?_ | refine G.nil ?_ | refine GE.block_normal ?_)
          rw [show Q.length + 1 = (pL x l j).length by rw [g2, ← h2, List.length_append]; rfl]
          refine GE.endR hst hpn ⟨(O, pL x l j, (o, oc), (o2, c2)), ⟨by rw [g1]; exact h1, rfl⟩, rfl⟩ (by repeat first | exact tn_ | apply td_ rfl | apply tc_ | exact .here | apply Take1.there) (by repeat (first | exact Subs.refl | refine Subs.skip ?_))
    · unfold oL; rw [List.drop_eq_nil_of_le (by omega)]; rfl
    · unfold pL; rw [List.drop_eq_nil_of_le (by omega)]; rfl
    · rintro v give ⟨i, hi, rfl, rfl⟩
      exact ⟨_, ⟨i, hi, rfl⟩, rfl⟩
  · rintro D v g ⟨⟨O, Q, ⟨o, oc⟩, ⟨p, pc⟩⟩, ⟨h1, h2⟩, rfl⟩ rs1 hrs1
    simp only [List.cons_append, List.nil_append] at hrs1 h1 h2
    subst hrs1
    have hOl : O.length ≤ 16 := by rw [h1]; exact Nat.le_trans (List.length_filter_le ..) (by rw [List.length_reverse, List.length_drop]; omega)
    have hQl : Q.length ≤ 16 := by rw [h2]; exact Nat.le_trans (List.length_filter_le ..) (by rw [List.length_reverse, List.length_drop]; omega)
    have hsk : O ++ Q = sk x l.reverse := by rw [h1, h2]; rfl
    have hcat : flat eR O ++ flat eR Q = flat eR (sk x l.reverse) := by rw [← flat_append, hsk]
    have hskl : O.length + Q.length = (sk x l.reverse).length := by rw [← hsk, List.length_append]
    repeat (first | (apply G.ex (hd := rfl); case h => (first | exact Ex.loadB rfl rfl)) | refine GC.seq ?_ | refine GC.region ?_ | refine GE.then_normal ?_ | refine GE.block_normal ?_)
    refine G.app rfl rfl (by rfl) (by omega) rfl (hcat) (fun o3 c3 rs_ hrs_ => ?_)
    try simp only at hrs_
    subst hrs_
    repeat (first | refine G.storeB rfl rfl rfl rfl rfl ?_ | (apply G.ex (hd := rfl); case h => (first | exact Ex.move rfl | exact Ex.loadB rfl rfl | exact Ex.lenSl rfl | exact Ex.min rfl rfl)) | refine G.nil ?_ | refine GC.seq ?_ | refine GC.region ?_ | refine GE.then_normal ?_)
    rw [show min (k : Int) ((O.length + Q.length : Nat) : Int) = ((min k (O.length + Q.length) : Nat) : Int) by omega]
    first | refine G.frz o3 ?_ | refine GC.frz o3 ?_ | refine GE.frz o3 ?_
    refine G.sub (l := 0) (r := (min k (O.length + Q.length))) rfl rfl (by first | exact .inl ⟨rfl, rfl⟩ | exact .inr ⟨_, _, rfl, ev_int rfl (by omega)⟩) (by first | exact .inl ⟨rfl, rfl⟩ | exact .inr ⟨_, _, rfl, ev_int rfl (by omega)⟩) (by omega) rfl (rfl) (fun s2 => ?_)
    have hsl : (sk x l.reverse).length = O.length + Q.length := hskl.symm
    have hcut : ((flat eR (sk x l.reverse)).drop (0 * 2)).take ((min k (O.length + Q.length) - 0) * 2) = flat eR (sacks x l k) := by
      rw [flat_cutR]
      unfold sacks
      rw [List.drop_zero, Nat.sub_zero, ← hsl]
      congr 1
      by_cases e : k ≤ (sk x l.reverse).length
      · rw [Nat.min_eq_left e]
      · rw [Nat.min_eq_right (by omega), List.take_of_length_le (Nat.le_refl _), List.take_of_length_le (by omega)]
    repeat (first | (apply G.ex (hd := rfl); case h => (first | exact Ex.assign rfl)) | refine G.nil ?_ | refine GC.ret ?_ | refine GE.then_normal ?_)
    rw [hcut]
    refine GE.retM (by first | exact .inl rfl | exact .inr rfl) (by repeat first | exact tn_ | apply td_ rfl | apply tc_ | exact .here | apply Take1.there) (res2 Try.results43 rfl rfl) ⟨_, _, _, by rw [sacks_len, ← (sk_perm x l).length_eq, hsl, Nat.sub_zero], rfl, rfl⟩ (by repeat first | exact tn_ | apply td_ rfl | apply tc_ | exact .here | apply Take1.there) (by repeat (first | exact Subs.refl | refine Subs.skip ?_))
end hole
end Go.Proofs.Ytcllddkhnbnigaa
