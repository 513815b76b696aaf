/-
  CONTRACTS of package seg (its small functions), and of inet's folds, by the kit.
-/
import Derived.Test.YtcllddkhnbnigaaPlainM
import Derived.Test.YtcllddkhnbnigaaKitM2
namespace Go.Proofs.Ytcllddkhnbnigaa
open Go.RowKit
attribute [local irreducible] Ex G GC GE Gq FPost LPost
set_option linter.unusedVariables false
set_option linter.unusedSimpArgs false

namespace inet
theorem fold_sp (n : Int) (h : 0 ≤ n ∧ n ≤ 9223372036854775807) : Spec Try.prog 78 [.int .i64 n] [] fun v give => v = .int .i64 (ofold n) ∧ give = [] := by
  refine Spec.intro Try.func78 rfl Try.ntmps78 rfl fun w0 rest rs_ hrs_ => ?_
  simp only [List.cons_append, List.nil_append] at hrs_
  subst hrs_
  repeat (first | (apply G.ex (hd := rfl); case h => (first | exact Ex.assign rfl)) | refine G.nil ?_ | refine GC.seq ?_ | refine GC.region ?_ | refine GC.block ?_ | refine GE.then_normal ?_)
  refine GC.loop (ι := Int) (fun m => 0 ≤ m ∧ m ≤ 9223372036854775807 ∧ ofold m = ofold n) (fun m => m.toNat) (fun m => [(0, .int .i64 m)]) (fun m => []) n ⟨h.1, h.2, rfl⟩ (by simp only [fits]; repeat (first | exact trivial | refine And.intro rfl ?_)) (by repeat first | exact tn_ | apply td_ rfl | apply tc_ | exact .here | apply Take1.there) ?_
  rintro m ⟨h1, h2, h3⟩ fr_ rs_ hfr_ hrs_
  simp only [List.cons_append, List.nil_append] at hfr_ hrs_
  subst hfr_ hrs_
  repeat (first | (apply G.ex (hd := rfl); case h => (first | exact Ex.move rfl | exact Ex.gtr rfl rfl)) | refine G.nil ?_ | refine GC.seq ?_ | refine GC.region ?_ | refine GE.then_normal ?_)
  refine GC.cond_dec rfl (fun hm => ?_) (fun hm => ?_)
  · have hs := ofold_step m hm
    repeat (first | (apply G.ex (hd := rfl); case h => (first | exact Ex.move rfl | exact Ex.add rfl rfl (by omega) | exact Ex.assign rfl | exact Ex.shr16 rfl rfl | exact Ex.and16 rfl rfl (by omega))) | refine G.nil ?_ | refine GC.region ?_ | refine GC.block ?_ | refine GC.skip ?_ | refine GE.then_normal ?_ | refine GE.block_normal ?_)
    refine GE.loop (m / 65536 + m % 65536) ⟨by omega, by omega, by rw [hs, h3]⟩ (by omega) (by simp only [fits]; repeat (first | exact trivial | refine And.intro rfl ?_)) (by repeat first | exact tn_ | apply td_ rfl | apply tc_ | exact .here | apply Take1.there) (by repeat (first | exact Subs.refl | refine Subs.skip ?_))
  · repeat (first | (apply G.ex (hd := rfl); case h => (first | exact Ex.move rfl | exact Ex.assign rfl)) | refine G.nil ?_ | refine GC.seq ?_ | refine GC.region ?_ | refine GC.ret ?_ | refine GC.exit ?_ | refine GE.then_normal ?_ | refine GE.then_exit ?_ | refine GE.block_hit ?_)
    refine GE.ret (by first | exact .inl rfl | exact .inr rfl) (res1 Try.results78 rfl) ⟨by rw [← h3, ofold_le m h1 (by omega)], rfl⟩ (by repeat first | exact tn_ | apply td_ rfl | apply tc_ | exact .here | apply Take1.there) (by repeat (first | exact Subs.refl | refine Subs.skip ?_))
theorem foldB_sp (r : Res) (ao : Option Addr) (n c : Nat) (l : List UInt8) [hr : RdR r ao n c 1 (flat eB l)] (hl : l.length = n) (hn : n ≤ 140737488351232) :
    Spec Try.prog 77 [.slice ao n c] [r] fun v give => v = .int .i64 (ofold (ws false l)) ∧ give = [r] := by
  refine Spec.intro Try.func77 rfl Try.ntmps77 rfl fun w0 rest rs_ hrs_ => ?_
  simp only [List.cons_append, List.nil_append] at hrs_
  subst hrs_
  repeat (first | (apply G.ex (hd := rfl); case h => (first | exact Ex.move rfl | exact Ex.lenSl rfl | exact Ex.assign rfl)) | refine G.nil ?_ | refine GC.seq ?_ | refine GC.region ?_ | refine GC.block ?_ | refine GE.then_normal ?_)
  refine GC.loop (ι := Nat) (fun k => k ≤ n) (fun k => n - k) (fun k => [(6, .slice ao n c), (7, .int .i64 (n : Int)), (8, .int .i64 (k : Int)), (3, .int .i64 (ws false (l.take k)))]) (fun k => [r]) 0 (Nat.zero_le _) (by simp only [fits]; repeat (first | exact trivial | refine And.intro rfl ?_)) (by repeat first | exact tn_ | apply td_ rfl | apply tc_ | exact .here | apply Take1.there) ?_
  rintro k hk fr_ rs_ hfr_ hrs_
  simp only [List.cons_append, List.nil_append] at hfr_ hrs_
  subst hfr_ hrs_
  have hb := ws_bd (l.take k) false
  have hb' := List.length_take (i := k) (l := l)
  obtain ⟨hb1, hb2⟩ := hb
  repeat (first | (apply G.ex (hd := rfl); case h => (first | exact Ex.lss rfl rfl)) | refine G.nil ?_ | refine GC.seq ?_ | refine GC.region ?_ | refine GE.then_normal ?_)
  refine GC.cond_dec rfl (fun hlt => ?_) (fun hlt => ?_)
  · have hlt : k < n := by omega
    have ht := ws_take l k (by omega)
    have hx := UInt8.toNat_lt (l.getD k default)
    by_cases hp : k % 2 = 0
    · rw [if_pos hp] at ht
      have hq : (k : Int) % 2 = 0 := by omega
      repeat (first | (apply G.ex (hd := rfl); case h => (first | exact Ex.move rfl | exact Ex.add rfl rfl (by omega) | exact Ex.eqI rfl rfl | exact Ex.indexN rfl rfl (by first | omega | (simp; done) | (simp; omega)) | exact Ex.loadT0 rfl (by first | omega | (simp; done) | (simp; omega)) rfl | exact Ex.assign rfl | exact Ex.rem rfl rfl (by omega) | exact Ex.conv64b rfl | exact Ex.shl8b rfl rfl)) | refine G.nil ?_ | refine GC.seq ?_ | refine GC.region ?_ | refine GC.block ?_ | refine GC.skip ?_ | refine GE.then_normal ?_ | refine GE.block_normal ?_ | refine GC.cond_yes rfl (by first | assumption | omega) ?_)
      rw [← ht]
      refine GE.loop (k + 1) (by omega) (by omega) (by simp only [fits]; repeat (first | exact trivial | refine And.intro rfl ?_)) (by repeat first | exact tn_ | apply td_ rfl | apply tc_ | exact .here | apply Take1.there) (by repeat (first | exact Subs.refl | refine Subs.skip ?_))
    · rw [if_neg hp] at ht
      have hq : ¬ (k : Int) % 2 = 0 := by omega
      repeat (first | (apply G.ex (hd := rfl); case h => (first | exact Ex.move rfl | exact Ex.add rfl rfl (by omega) | exact Ex.eqI rfl rfl | exact Ex.indexN rfl rfl (by first | omega | (simp; done) | (simp; omega)) | exact Ex.loadT0 rfl (by first | omega | (simp; done) | (simp; omega)) rfl | exact Ex.assign rfl | exact Ex.rem rfl rfl (by omega) | exact Ex.conv64b rfl)) | refine G.nil ?_ | refine GC.seq ?_ | refine GC.region ?_ | refine GC.block ?_ | refine GC.skip ?_ | refine GE.then_normal ?_ | refine GE.block_normal ?_ | refine GC.cond_no rfl (by first | assumption | omega) ?_)
      rw [← ht]
      refine GE.loop (k + 1) (by omega) (by omega) (by simp only [fits]; repeat (first | exact trivial | refine And.intro rfl ?_)) (by repeat first | exact tn_ | apply td_ rfl | apply tc_ | exact .here | apply Take1.there) (by repeat (first | exact Subs.refl | refine Subs.skip ?_))
  · obtain rfl : k = n := by omega
    rw [List.take_of_length_le (by omega)] at hb1 hb2 ⊢
    repeat (first | (apply G.ex (hd := rfl); case h => (first | exact Ex.move rfl)) | refine GC.seq ?_ | refine GC.region ?_ | refine GC.exit ?_ | refine GE.then_normal ?_ | refine GE.then_exit ?_ | refine GE.block_hit ?_)
    first | refine G.call (caps := []) (fold_sp (ws false l) ⟨by omega, by omega⟩) rfl rfl rfl rfl (by repeat first | exact tn_ | apply td_ rfl | apply tc_ | exact .here | apply Take1.there) ?_ | refine G.callU (caps := []) (fold_sp (ws false l) ⟨by omega, by omega⟩) rfl rfl rfl (by repeat first | exact tn_ | apply td_ rfl | apply tc_ | exact .here | apply Take1.there) ?_
    rintro v_ give_ ⟨rfl, rfl⟩ rs_ hrs_
    simp only [List.cons_append, List.nil_append] at hrs_
    subst hrs_
    repeat (first | (apply G.ex (hd := rfl); case h => (first | exact Ex.assign rfl)) | refine G.nil ?_ | refine GC.ret ?_ | refine GE.then_normal ?_)
    refine GE.ret (by first | exact .inl rfl | exact .inr rfl) (res1 Try.results77 rfl) ⟨rfl, rfl⟩ (by repeat first | exact tn_ | apply td_ rfl | apply tc_ | exact .here | apply Take1.there) (by repeat (first | exact Subs.refl | refine Subs.skip ?_))
theorem sum_sp (r : Res) (ao : Option Addr) (n c : Nat) (l : List UInt8) [hr : RdR r ao n c 1 (flat eB l)] (hl : l.length = n) (hn : n ≤ 140737488351232) :
    Spec Try.prog 70 [.slice ao n c] [r] fun v give => v = .int .i64 (seg.sum l) ∧ give = [r] := by
  have hb := ofold_bd _ (ws_bd l false).1
  refine Spec.intro Try.func70 rfl Try.ntmps70 rfl fun w0 rest rs_ hrs_ => ?_
  simp only [List.cons_append, List.nil_append] at hrs_
  subst hrs_
  repeat (first | (apply G.ex (hd := rfl); case h => (first | exact Ex.move rfl | exact Ex.assign rfl)) | refine G.nil ?_ | refine GC.seq ?_ | refine GC.region ?_ | refine GE.then_normal ?_)
  first | refine G.call (caps := []) (foldB_sp r ao n c l hl hn) rfl rfl rfl rfl (by repeat first | exact tn_ | apply td_ rfl | apply tc_ | exact .here | apply Take1.there) ?_ | refine G.callU (caps := []) (foldB_sp r ao n c l hl hn) rfl rfl rfl (by repeat first | exact tn_ | apply td_ rfl | apply tc_ | exact .here | apply Take1.there) ?_
  rintro v_ give_ ⟨rfl, rfl⟩ rs_ hrs_
  simp only [List.cons_append, List.nil_append] at hrs_
  subst hrs_
  repeat (first | (apply G.ex (hd := rfl); case h => (first | exact Ex.sub rfl rfl (by omega) | exact Ex.assign rfl)) | refine G.nil ?_ | refine GC.ret ?_ | refine GE.then_normal ?_)
  refine GE.ret (by first | exact .inl rfl | exact .inr rfl) (res1 Try.results70 rfl) ⟨rfl, rfl⟩ (by repeat first | exact tn_ | apply td_ rfl | apply tc_ | exact .here | apply Take1.there) (by repeat (first | exact Subs.refl | refine Subs.skip ?_))
end inet
namespace seg
def eR (x : R) : List Value := [.int .i64 x.1, .int .i64 x.2]
instance : Enc eR 2 := ⟨fun _ => rfl, fun x u hu => by simp [eR] at hu; rcases hu with rfl | rfl <;> rfl⟩
theorem serial_sp (n : Int) (h : 0 ≤ n ∧ n < 65536) : Spec Try.prog 76 [.int .i64 n] [] fun v give => v = .bool true ∧ give = [] := by
  have h1 := h.1
  have h2 := h.2
  refine Spec.intro Try.func76 rfl Try.ntmps76 rfl fun w0 rest rs_ hrs_ => ?_
  simp only [List.cons_append, List.nil_append] at hrs_
  subst hrs_
  repeat (first | (apply G.ex (hd := rfl); case h => (first | exact Ex.move rfl | exact Ex.lss rfl rfl | exact Ex.geq rfl rfl | exact Ex.assign rfl | exact Ex.pickT rfl (by first | assumption | omega) rfl)) | refine G.g_tt rfl rfl (by first | assumption | omega) ?_ | refine G.nil ?_ | refine GC.seq ?_ | refine GC.region ?_ | refine GC.ret ?_ | refine GE.then_normal ?_)
  refine GE.ret (by first | exact .inl rfl | exact .inr rfl) (res1 Try.results76 rfl) ⟨by simp [h1, h2], rfl⟩ (by repeat first | exact tn_ | apply td_ rfl | apply tc_ | exact .here | apply Take1.there) (by repeat (first | exact Subs.refl | refine Subs.skip ?_))
theorem two_sp (ao : Option Addr) (n c : Nat) (l : List UInt8) (hl : l.length = n) (hn : n ≤ 2000) (z : Int) (hz : 0 ≤ z ∧ z < 65536) :
    Spec Try.prog 68 [.slice ao n c, .int .i64 z] [.vec 5 1 ao n c (flat eB l)] fun v give => ∃ oa oc, v = .slice oa (n + 2) oc ∧ give = [.vec 5 1 oa (n + 2) oc (flat eB (l ++ w16 z))] := by
  have hcat : flat eB l ++ flat eB [byteZ (z / 256), byteZ z] = flat eB (l ++ w16 z) := (flat_append ..).symm
  refine Spec.intro Try.func68 rfl Try.ntmps68 rfl fun w0 rest rs_ hrs_ => ?_
  simp only [List.cons_append, List.nil_append] at hrs_
  subst hrs_
  repeat (first | (apply G.ex (hd := rfl); case h => (first | exact Ex.move rfl | exact Ex.assign rfl | exact Ex.conv8 rfl | exact Ex.shr8 rfl rfl)) | refine G.nil ?_ | refine GC.seq ?_ | refine GC.region ?_ | refine GE.then_normal ?_)
  rw [← byteZ_toNat (z / 256), ← byteZ_toNat z]
  refine G.lit rfl (by rfl) (by rfl) (by rfl) (by rfl) (by rfl) (by rfl) rfl (fun y => ?_)
  repeat (first | refine G.storeB rfl rfl rfl rfl rfl ?_ | refine G.storeBA rfl rfl rfl rfl rfl ?_ | (apply G.ex (hd := rfl); case h => (first | exact Ex.move rfl | exact Ex.nilCheck rfl | exact Ex.lenO rfl | exact Ex.indexO rfl rfl (by omega) | exact Ex.eqO rfl rfl | exact Ex.neO rfl rfl | exact Ex.subLo rfl rfl (by omega) | exact Ex.subHi rfl rfl (by omega) | exact Ex.subMid rfl rfl rfl (by omega) | exact Ex.addO rfl rfl (by omega) | exact Ex.indexPE rfl rfl (by first | omega | (simp; done) | (simp; omega)) | exact Ex.indexPB rfl rfl (by first | omega | (simp; done) | (simp; omega)) | exact Ex.loadP rfl (by omega) | exact Ex.loadPW rfl | exact Ex.loadRP rfl (by first | omega | (simp; done) | (simp; omega)) (by omega) | exact Ex.bld0 | exact Ex.bldR | exact Ex.fieldE rfl | exact Ex.fieldB rfl | exact Ex.loadB rfl rfl | exact Ex.add rfl rfl (by omega) | exact Ex.sub rfl rfl (by omega) | exact Ex.lss rfl rfl | exact Ex.leq rfl rfl | exact Ex.gtr rfl rfl | exact Ex.geq rfl rfl | exact Ex.eqBy rfl rfl | exact Ex.neBy rfl rfl | exact Ex.eqI rfl rfl | exact Ex.neI rfl rfl | exact Ex.lenSl rfl | exact Ex.indexN rfl rfl (by first | omega | (simp; done) | (simp; omega)) | exact Ex.loadT0 rfl (by first | omega | (simp; done) | (simp; omega)) rfl | exact Ex.loadT rfl (by first | omega | (simp; done) | (simp; omega)) rfl | exact Ex.extract rfl rfl | exact Ex.field rfl rfl | exact Ex.assign rfl | exact Ex.min rfl rfl | exact Ex.min3 rfl rfl rfl | exact Ex.max rfl rfl | exact Ex.quo rfl rfl (by omega) | exact Ex.quotB rfl rfl (by omega) | exact Ex.rem rfl rfl (by omega) | exact Ex.mul rfl rfl (by omega) | exact Ex.remt rfl rfl (by omega) | exact Ex.notD rfl | exact Ex.notB rfl | exact Ex.eqS rfl rfl | exact Ex.neS rfl rfl | exact Ex.eqB rfl rfl | exact Ex.neB rfl rfl | exact Ex.lenS rfl | exact Ex.indexS rfl rfl (by first | omega | (simp; done) | (simp; omega)) | exact Ex.neg rfl (by omega) | exact Ex.convS rfl | exact Ex.pickT rfl (by first | assumption | omega) rfl | exact Ex.pickF rfl (by first | assumption | omega) rfl | exact Ex.loadBA rfl rfl rfl | exact Ex.loadTA rfl (by first | omega | (simp; done) | (simp; omega)) | exact Ex.build rfl rfl | exact Ex.pickLT rfl rfl | exact Ex.pickLF rfl rfl | exact Ex.eqA rfl rfl rfl | exact Ex.neA rfl rfl rfl | exact Ex.pick rfl rfl rfl | exact Ex.indexI rfl rfl (by omega) | exact Ex.conv64b rfl | exact Ex.conv64 rfl (by omega) | exact Ex.conv8 rfl | exact Ex.conv16 rfl | exact Ex.shr8 rfl rfl | exact Ex.shr16 rfl rfl | exact Ex.shr24 rfl rfl | exact Ex.shl8b rfl rfl | exact Ex.shl8 rfl rfl (by omega) | exact Ex.orBbb rfl rfl | exact Ex.orBb rfl rfl (by omega) | exact Ex.orB rfl rfl (by omega) | exact Ex.and16 rfl rfl (by omega) | exact Ex.eqNil rfl rfl | exact Ex.neNil rfl rfl | exact Ex.mkFunc rfl | exact Ex.capSl rfl | exact Ex.arrPtr rfl (by omega) | exact Ex.loadArI rfl (by assumption) rfl | exact Ex.eqArrI rfl rfl (by assumption) (by assumption) | exact Ex.loadAr rfl rfl rfl rfl | exact Ex.indexArr rfl rfl (by first | omega | (simp; done) | (simp; omega)) | exact Ex.buildArr rfl rfl | exact Ex.indexV rfl rfl rfl rfl (by omega) | exact Ex.shlK rfl rfl (by omega) | exact Ex.orK rfl rfl (by omega) | exact Ex.shrK rfl rfl (by omega) | exact Ex.andS rfl rfl | exact Ex.andS (k := 0) rfl rfl | exact Ex.andK rfl rfl (by omega) | exact Ex.xorB rfl rfl | exact Ex.and rfl rfl | exact Ex.slHi rfl rfl (by omega) | exact Ex.slLo rfl rfl (by omega) | exact Ex.slLH rfl rfl rfl (by omega) | exact Ex.sl3 rfl rfl rfl rfl (by omega) | exact Ex.convBO rfl (by omega) | exact Ex.loadB rfl (by assumption) | exact Ex.eqP0 rfl rfl | exact Ex.neP0 rfl rfl | exact Ex.nePB rfl rfl)) | refine G.g_tt rfl rfl (by first | assumption | omega) ?_ | refine G.g_tf rfl rfl (by first | assumption | omega) rfl ?_ | refine G.g_ft rfl rfl (by first | assumption | omega) rfl ?_ | refine G.g_ff rfl rfl (by first | assumption | omega) ?_ | refine G.g_un rfl rfl rfl ?_ | refine G.yes rfl rfl ?_ | refine G.l_tf rfl rfl rfl ?_ | refine G.l_ft rfl rfl rfl ?_ | refine G.nil ?_ | (apply Gq.ex (hd := rfl); case h => (first | exact Ex.move rfl | exact Ex.nilCheck rfl | exact Ex.lenO rfl | exact Ex.indexO rfl rfl (by omega) | exact Ex.eqO rfl rfl | exact Ex.neO rfl rfl | exact Ex.subLo rfl rfl (by omega) | exact Ex.subHi rfl rfl (by omega) | exact Ex.subMid rfl rfl rfl (by omega) | exact Ex.addO rfl rfl (by omega) | exact Ex.indexPE rfl rfl (by first | omega | (simp; done) | (simp; omega)) | exact Ex.indexPB rfl rfl (by first | omega | (simp; done) | (simp; omega)) | exact Ex.loadP rfl (by omega) | exact Ex.loadPW rfl | exact Ex.loadRP rfl (by first | omega | (simp; done) | (simp; omega)) (by omega) | exact Ex.bld0 | exact Ex.bldR | exact Ex.fieldE rfl | exact Ex.fieldB rfl | exact Ex.loadB rfl rfl | exact Ex.add rfl rfl (by omega) | exact Ex.sub rfl rfl (by omega) | exact Ex.lss rfl rfl | exact Ex.leq rfl rfl | exact Ex.gtr rfl rfl | exact Ex.geq rfl rfl | exact Ex.eqBy rfl rfl | exact Ex.neBy rfl rfl | exact Ex.eqI rfl rfl | exact Ex.neI rfl rfl | exact Ex.lenSl rfl | exact Ex.indexN rfl rfl (by first | omega | (simp; done) | (simp; omega)) | exact Ex.loadT0 rfl (by first | omega | (simp; done) | (simp; omega)) rfl | exact Ex.loadT rfl (by first | omega | (simp; done) | (simp; omega)) rfl | exact Ex.extract rfl rfl | exact Ex.field rfl rfl | exact Ex.assign rfl | exact Ex.min rfl rfl | exact Ex.min3 rfl rfl rfl | exact Ex.max rfl rfl | exact Ex.quo rfl rfl (by omega) | exact Ex.quotB rfl rfl (by omega) | exact Ex.rem rfl rfl (by omega) | exact Ex.mul rfl rfl (by omega) | exact Ex.remt rfl rfl (by omega) | exact Ex.notD rfl | exact Ex.notB rfl | exact Ex.eqS rfl rfl | exact Ex.neS rfl rfl | exact Ex.eqB rfl rfl | exact Ex.neB rfl rfl | exact Ex.lenS rfl | exact Ex.indexS rfl rfl (by first | omega | (simp; done) | (simp; omega)) | exact Ex.neg rfl (by omega) | exact Ex.convS rfl | exact Ex.pickT rfl (by first | assumption | omega) rfl | exact Ex.pickF rfl (by first | assumption | omega) rfl | exact Ex.loadBA rfl rfl rfl | exact Ex.loadTA rfl (by first | omega | (simp; done) | (simp; omega)) | exact Ex.build rfl rfl | exact Ex.pickLT rfl rfl | exact Ex.pickLF rfl rfl | exact Ex.eqA rfl rfl rfl | exact Ex.neA rfl rfl rfl | exact Ex.pick rfl rfl rfl | exact Ex.indexI rfl rfl (by omega) | exact Ex.conv64b rfl | exact Ex.conv64 rfl (by omega) | exact Ex.conv8 rfl | exact Ex.conv16 rfl | exact Ex.shr8 rfl rfl | exact Ex.shr16 rfl rfl | exact Ex.shr24 rfl rfl | exact Ex.shl8b rfl rfl | exact Ex.shl8 rfl rfl (by omega) | exact Ex.orBbb rfl rfl | exact Ex.orBb rfl rfl (by omega) | exact Ex.orB rfl rfl (by omega) | exact Ex.and16 rfl rfl (by omega) | exact Ex.eqNil rfl rfl | exact Ex.neNil rfl rfl | exact Ex.mkFunc rfl | exact Ex.capSl rfl | exact Ex.arrPtr rfl (by omega) | exact Ex.loadArI rfl (by assumption) rfl | exact Ex.eqArrI rfl rfl (by assumption) (by assumption) | exact Ex.loadAr rfl rfl rfl rfl | exact Ex.indexArr rfl rfl (by first | omega | (simp; done) | (simp; omega)) | exact Ex.buildArr rfl rfl | exact Ex.indexV rfl rfl rfl rfl (by omega) | exact Ex.shlK rfl rfl (by omega) | exact Ex.orK rfl rfl (by omega) | exact Ex.shrK rfl rfl (by omega) | exact Ex.andS rfl rfl | exact Ex.andS (k := 0) rfl rfl | exact Ex.andK rfl rfl (by omega) | exact Ex.xorB rfl rfl | exact Ex.and rfl rfl | exact Ex.slHi rfl rfl (by omega) | exact Ex.slLo rfl rfl (by omega) | exact Ex.slLH rfl rfl rfl (by omega) | exact Ex.sl3 rfl rfl rfl rfl (by omega) | exact Ex.convBO rfl (by omega) | exact Ex.loadB rfl (by assumption) | exact Ex.eqP0 rfl rfl | exact Ex.neP0 rfl rfl | exact Ex.nePB rfl rfl)) | refine Gq.g_tt rfl rfl (by first | assumption | omega) ?_ | refine Gq.g_tf rfl rfl (by first | assumption | omega) rfl ?_ | refine Gq.g_ft rfl rfl (by first | assumption | omega) rfl ?_ | refine Gq.g_ff rfl rfl (by first | assumption | omega) ?_ | refine Gq.g_un rfl rfl rfl ?_ | refine Gq.yes rfl rfl ?_ | refine Gq.l_tf rfl rfl rfl ?_ | refine Gq.l_ft rfl rfl rfl ?_ | refine Gq.nil ?_ | refine GC.seq ?_ | refine GC.region ?_ | refine GC.block ?_ | refine GC.skip ?_ | refine GC.ret ?_ | refine GC.exit ?_ | refine GE.then_normal ?_ | refine GE.then_ret ?_ | refine GE.then_exit ?_ | refine GE.block_normal ?_ | refine GE.block_ret ?_ | refine GE.block_hit ?_ | refine GE.block_miss rfl ?_ | refine GC.cond_yes rfl (by first | assumption | omega) ?_ | refine GC.cond_no rfl (by first | assumption | omega) ?_ | refine GC.cond_t rfl ?_ | refine GC.cond_f rfl ?_ | refine GC.scope ?_ | refine GE.ng_normal ?_ | refine GE.ng_ret ?_ | refine GE.ng_exit ?_ | refine GC.label ?_)
  refine G.app rfl rfl (by rfl) (by omega) rfl (hcat) (fun o2 c2 rs_ hrs_ => ?_)
  try simp only at hrs_
  subst hrs_
  repeat (first | (apply G.ex (hd := rfl); case h => (first | exact Ex.assign rfl)) | refine G.nil ?_ | refine GC.ret ?_ | refine GE.then_normal ?_)
  refine GE.ret (by first | exact .inl rfl | exact .inr rfl) (res1 Try.results68 rfl) ⟨o2, c2, rfl, rfl⟩ (by repeat first | exact tn_ | apply td_ rfl | apply tc_ | exact .here | apply Take1.there) (by repeat (first | exact Subs.refl | refine Subs.skip ?_))
def ptrs (b : Nat) : List Value := [.pointer (some (badr b 3)), .pointer (some (badr b 4)), .pointer (some (badr b 5)), .pointer (some (badr b 6))]
theorem flags_sp (b : Nat) : Spec Try.prog 69 [.pointer (some (badr b 0))] [] fun v give => v = .agg (ptrs b).toArray ∧ give = [] := by
  refine Spec.intro Try.func69 rfl Try.ntmps69 rfl fun w0 rest rs_ hrs_ => ?_
  simp only [List.cons_append, List.nil_append] at hrs_
  subst hrs_
  repeat (first | refine GC.seq ?_ | refine GC.region ?_)
  refine G.alloc rfl (fun r => ?_)
  repeat (first | refine G.nil ?_ | refine GC.seq ?_ | refine GE.then_normal ?_)
  refine GC.drawA [13] [.blk r 130 [.pointer none, .pointer none, .pointer none, .pointer none]] (by repeat first | exact tn_ | apply td_ rfl | apply tc_ | exact .here | apply Take1.there) (by kernel_rfl) ?_
  first | (apply GA.take [] (hD := .inl rfl) (hsub := ⟨_, Takes.nil⟩) (i := 0) (hi := rfl) (hs := by kernel_rfl) (hfr := by kernel_rfl) (hr := by kernel_rfl) (hQ := np_) (hd := rfl); case hx => (first | exact Ex.move rfl))
  first | (apply GA.take [] (hD := .inl rfl) (hsub := ⟨_, Takes.nil⟩) (i := 1) (hi := rfl) (hs := by kernel_rfl) (hfr := by kernel_rfl) (hr := by kernel_rfl) (hQ := np_) (hd := rfl); case hx => (first | exact Ex.nilCheck rfl))
  first | (apply GA.take [] (hD := .inl rfl) (hsub := ⟨_, Takes.nil⟩) (i := 2) (hi := rfl) (hs := by kernel_rfl) (hfr := by kernel_rfl) (hr := by kernel_rfl) (hQ := np_) (hd := rfl); case hx => (first | exact Ex.fieldB rfl))
  first | (apply GA.take [] (hD := .inl rfl) (hsub := ⟨_, Takes.nil⟩) (i := 3) (hi := rfl) (hs := by kernel_rfl) (hfr := by kernel_rfl) (hr := by kernel_rfl) (hQ := np_) (hd := rfl); case hx => (first | exact Ex.move rfl))
  first | (apply GA.take [] (hD := .inl rfl) (hsub := ⟨_, Takes.nil⟩) (i := 4) (hi := rfl) (hs := by kernel_rfl) (hfr := by kernel_rfl) (hr := by kernel_rfl) (hQ := np_) (hd := rfl); case hx => (first | exact Ex.nilCheck rfl))
  first | (apply GA.take [] (hD := .inl rfl) (hsub := ⟨_, Takes.nil⟩) (i := 5) (hi := rfl) (hs := by kernel_rfl) (hfr := by kernel_rfl) (hr := by kernel_rfl) (hQ := np_) (hd := rfl); case hx => (first | exact Ex.fieldB rfl))
  first | (apply GA.take [] (hD := .inl rfl) (hsub := ⟨_, Takes.nil⟩) (i := 6) (hi := rfl) (hs := by kernel_rfl) (hfr := by kernel_rfl) (hr := by kernel_rfl) (hQ := np_) (hd := rfl); case hx => (first | exact Ex.move rfl))
  first | (apply GA.take [] (hD := .inl rfl) (hsub := ⟨_, Takes.nil⟩) (i := 7) (hi := rfl) (hs := by kernel_rfl) (hfr := by kernel_rfl) (hr := by kernel_rfl) (hQ := np_) (hd := rfl); case hx => (first | exact Ex.nilCheck rfl))
  first | (apply GA.take [] (hD := .inl rfl) (hsub := ⟨_, Takes.nil⟩) (i := 8) (hi := rfl) (hs := by kernel_rfl) (hfr := by kernel_rfl) (hr := by kernel_rfl) (hQ := np_) (hd := rfl); case hx => (first | exact Ex.fieldB rfl))
  first | (apply GA.take [] (hD := .inl rfl) (hsub := ⟨_, Takes.nil⟩) (i := 9) (hi := rfl) (hs := by kernel_rfl) (hfr := by kernel_rfl) (hr := by kernel_rfl) (hQ := np_) (hd := rfl); case hx => (first | exact Ex.move rfl))
  first | (apply GA.take [] (hD := .inl rfl) (hsub := ⟨_, Takes.nil⟩) (i := 10) (hi := rfl) (hs := by kernel_rfl) (hfr := by kernel_rfl) (hr := by kernel_rfl) (hQ := np_) (hd := rfl); case hx => (first | exact Ex.nilCheck rfl))
  first | (apply GA.take [] (hD := .inl rfl) (hsub := ⟨_, Takes.nil⟩) (i := 11) (hi := rfl) (hs := by kernel_rfl) (hfr := by kernel_rfl) (hr := by kernel_rfl) (hQ := np_) (hd := rfl); case hx => (first | exact Ex.fieldB rfl))
  first | (apply GA.take [] (hD := .inl rfl) (hsub := ⟨_, Takes.nil⟩) (i := 12) (hi := rfl) (hs := by kernel_rfl) (hfr := by kernel_rfl) (hr := by kernel_rfl) (hQ := np_) (hd := rfl); case hx => (first | exact Ex.buildArr rfl rfl))
  refine GA.one (i := 13) (by kernel_rfl) rfl ?_
  first | refine G.storeBA rfl rfl rfl rfl rfl ?_
  try refine G.nil ?_
  refine GA.back (by first | exact .inl (by decide) | exact .inr ⟨_, (by repeat first | exact tn_ | apply td_ rfl | apply tc_ | exact .here | apply Take1.there)⟩) ?_
  refine GA.done (by kernel_rfl) ?_
  repeat (first | refine GC.ret ?_ | refine GE.then_normal ?_)
  refine GE.ret (by first | exact .inl rfl | exact .inr rfl) (resR1 Try.results69 (by first | exact RV.cell rfl (eP_len _) | exact RV.cell rfl rfl | exact RV.cell1 rfl)) ⟨rfl, rfl⟩ (by repeat first | exact tn_ | apply td_ rfl | apply tc_ | exact .here | apply Take1.there) (by repeat (first | exact Subs.refl | refine Subs.skip ?_))
theorem odd_sp (x : R) (h : (0 ≤ x.1 ∧ x.1 < 65536) ∧ 0 ≤ x.2 ∧ x.2 < 65536) : Spec Try.prog 75 [.agg (eR x).toArray] [] fun v give => v = .bool false ∧ give = [] := by
  refine Spec.intro Try.func75 rfl Try.ntmps75 rfl fun w0 rest rs_ hrs_ => ?_
  simp only [List.cons_append, List.nil_append] at hrs_
  subst hrs_
  repeat (first | refine GC.seq ?_ | refine GC.region ?_)
  refine G.box rfl rfl rfl (fun b => ?_)
  repeat (first | (apply G.ex (hd := rfl); case h => (first | exact Ex.fieldB rfl | exact Ex.loadB rfl rfl | exact Ex.assign rfl)) | refine G.nil ?_ | refine GC.seq ?_ | refine GC.region ?_ | refine GE.then_normal ?_)
  first | refine G.call (caps := []) (serial_sp x.1 h.1) rfl rfl rfl rfl (by repeat first | exact tn_ | apply td_ rfl | apply tc_ | exact .here | apply Take1.there) ?_ | refine G.callU (caps := []) (serial_sp x.1 h.1) rfl rfl rfl (by repeat first | exact tn_ | apply td_ rfl | apply tc_ | exact .here | apply Take1.there) ?_
  rintro v_ give_ ⟨rfl, rfl⟩ rs_ hrs_
  simp only [List.cons_append, List.nil_append] at hrs_
  subst hrs_
  repeat (first | (apply G.ex (hd := rfl); case h => (first | exact Ex.move rfl | exact Ex.fieldB rfl | exact Ex.loadB rfl rfl | exact Ex.notB rfl)) | refine G.yes rfl rfl ?_)
  first | refine G.call (caps := []) (serial_sp x.2 h.2) rfl rfl rfl rfl (by repeat first | exact tn_ | apply td_ rfl | apply tc_ | exact .here | apply Take1.there) ?_ | refine G.callU (caps := []) (serial_sp x.2 h.2) rfl rfl rfl (by repeat first | exact tn_ | apply td_ rfl | apply tc_ | exact .here | apply Take1.there) ?_
  rintro v_ give_ ⟨rfl, rfl⟩ rs_ hrs_
  simp only [List.cons_append, List.nil_append] at hrs_
  subst hrs_
  repeat (first | (apply G.ex (hd := rfl); case h => (first | exact Ex.assign rfl | exact Ex.notB rfl | exact Ex.pickLF rfl rfl)) | refine G.yes rfl rfl ?_ | refine G.nil ?_ | refine GC.ret ?_ | refine GE.then_normal ?_)
  refine GE.ret (by first | exact .inl rfl | exact .inr rfl) (res1 Try.results75 rfl) ⟨rfl, rfl⟩ (by repeat first | exact tn_ | apply td_ rfl | apply tc_ | exact .here | apply Take1.there) (by repeat (first | exact Subs.refl | refine Subs.skip ?_))
theorem indexNone_sp (r : Res) (ao : Option Addr) (n c : Nat) (l : List R) [hr : RdR r ao n c 2 (flat eR l)] (hl : l.length = n) (hn : n ≤ 1000000) (hF : ∀ z ∈ l, (0 ≤ z.1 ∧ z.1 < 65536) ∧ 0 ≤ z.2 ∧ z.2 < 65536) :
    Spec Try.prog 62 [.slice ao n c, .func (.func 75) #[] #[]] [r] fun v give => v = .int .i64 (-1) ∧ give = [r] := by
  refine Spec.intro Try.func62 rfl Try.ntmps62 rfl fun w0 rest rs_ hrs_ => ?_
  simp only [List.cons_append, List.nil_append] at hrs_
  subst hrs_
  repeat (first | (apply G.ex (hd := rfl); case h => (first | exact Ex.move rfl | exact Ex.lenSl rfl | exact Ex.assign rfl)) | refine G.nil ?_ | refine GC.seq ?_ | refine GC.region ?_ | refine GC.block ?_ | refine GE.then_normal ?_)
  refine GC.loop (ι := Nat) (fun k => k ≤ n) (fun k => n - k) (fun k => [(0, .slice ao n c), (1, .func (.func 75) #[] #[]), (7, .int .i64 (n : Int)), (8, .int .i64 (k : Int))]) (fun k => [r]) 0 (Nat.zero_le _) (by simp only [fits]; repeat (first | exact trivial | refine And.intro rfl ?_)) (by repeat first | exact tn_ | apply td_ rfl | apply tc_ | exact .here | apply Take1.there) ?_
  rintro k hk fr_ rs_ hfr_ hrs_
  simp only [List.cons_append, List.nil_append] at hfr_ hrs_
  subst hfr_ hrs_
  repeat (first | (apply G.ex (hd := rfl); case h => (first | exact Ex.lss rfl rfl)) | refine G.nil ?_ | refine GC.seq ?_ | refine GC.region ?_ | refine GE.then_normal ?_)
  refine GC.cond_dec rfl (fun hlt => ?_) (fun hlt => ?_)
  · have hlt : k < n := by omega
    have hm : l.getD k default ∈ l := by rw [List.getD_eq_getElem?_getD, List.getElem?_eq_getElem (by omega)]; exact List.getElem_mem _
    repeat (first | (apply G.ex (hd := rfl); case h => (first | exact Ex.move rfl | exact Ex.indexN rfl rfl (by first | omega | (simp; done) | (simp; omega)) | exact Ex.assign rfl | exact Ex.loadTA rfl (by first | omega | (simp; done) | (simp; omega)))) | refine G.nil ?_ | refine GC.seq ?_ | refine GC.region ?_ | refine GC.block ?_ | refine GC.skip ?_ | refine GE.then_normal ?_)
    first | refine G.call (odd_sp _ (hF _ hm)) rfl rfl rfl rfl (by repeat first | exact tn_ | apply td_ rfl | apply tc_ | exact .here | apply Take1.there) ?_ | refine G.callU (odd_sp _ (hF _ hm)) rfl rfl rfl (by repeat first | exact tn_ | apply td_ rfl | apply tc_ | exact .here | apply Take1.there) ?_
    rintro v_ give_ ⟨rfl, rfl⟩ rs_ hrs_
    simp only [List.cons_append, List.nil_append] at hrs_
    subst hrs_
    repeat (first | (apply G.ex (hd := rfl); case h => (first | exact Ex.move rfl | exact Ex.add rfl rfl (by omega))) | refine G.nil ?_ | refine GC.region ?_ | refine GC.skip ?_ | refine GE.then_normal ?_ | refine GE.block_normal ?_ | refine GC.cond_f rfl ?_)
    refine GE.loop (k + 1) (by omega) (by omega) (by simp only [fits]; repeat (first | exact trivial | refine And.intro rfl ?_)) (by repeat first | exact tn_ | apply td_ rfl | apply tc_ | exact .here | apply Take1.there) (by repeat (first | exact Subs.refl | refine Subs.skip ?_))
  · repeat (first | (apply G.ex (hd := rfl); case h => (first | exact Ex.assign rfl)) | refine G.nil ?_ | refine GC.seq ?_ | refine GC.region ?_ | refine GC.ret ?_ | refine GC.exit ?_ | refine GE.then_normal ?_ | refine GE.then_exit ?_ | refine GE.block_hit ?_)
    refine GE.ret (by first | exact .inl rfl | exact .inr rfl) (res1 Try.results62 rfl) ⟨rfl, rfl⟩ (by repeat first | exact tn_ | apply td_ rfl | apply tc_ | exact .here | apply Take1.there) (by repeat (first | exact Subs.refl | refine Subs.skip ?_))
theorem containsNone_sp (r : Res) (ao : Option Addr) (n c : Nat) (l : List R) [hr : RdR r ao n c 2 (flat eR l)] (hl : l.length = n) (hn : n ≤ 1000000) (hF : ∀ z ∈ l, (0 ≤ z.1 ∧ z.1 < 65536) ∧ 0 ≤ z.2 ∧ z.2 < 65536) :
    Spec Try.prog 46 [.slice ao n c, .func (.func 75) #[] #[]] [r] fun v give => v = .bool false ∧ give = [r] := by
  refine Spec.intro Try.func46 rfl Try.ntmps46 rfl fun w0 rest rs_ hrs_ => ?_
  simp only [List.cons_append, List.nil_append] at hrs_
  subst hrs_
  repeat (first | (apply G.ex (hd := rfl); case h => (first | exact Ex.move rfl | exact Ex.assign rfl)) | refine G.nil ?_ | refine GC.seq ?_ | refine GC.region ?_ | refine GE.then_normal ?_)
  first | refine G.call (caps := []) (indexNone_sp r ao n c l hl hn hF) rfl rfl rfl rfl (by repeat first | exact tn_ | apply td_ rfl | apply tc_ | exact .here | apply Take1.there) ?_ | refine G.callU (caps := []) (indexNone_sp r ao n c l hl hn hF) rfl rfl rfl (by repeat first | exact tn_ | apply td_ rfl | apply tc_ | exact .here | apply Take1.there) ?_
  rintro v_ give_ ⟨rfl, rfl⟩ rs_ hrs_
  simp only [List.cons_append, List.nil_append] at hrs_
  subst hrs_
  repeat (first | (apply G.ex (hd := rfl); case h => (first | exact Ex.geq rfl rfl | exact Ex.assign rfl)) | refine G.nil ?_ | refine GC.ret ?_ | refine GE.then_normal ?_)
  refine GE.ret (by first | exact .inl rfl | exact .inr rfl) (res1 Try.results46 rfl) ⟨rfl, rfl⟩ (by repeat first | exact tn_ | apply td_ rfl | apply tc_ | exact .here | apply Take1.there) (by repeat (first | exact Subs.refl | refine Subs.skip ?_))
def sg (q a w : Int) (b0 b1 b2 b3 : Bool) (ra : Option Addr) (rn rc : Nat) (da : Option Addr) (dn dc : Nat) : List Value := [.int .i64 q, .int .i64 a, .int .i64 w, .bool b0, .bool b1, .bool b2, .bool b3, .slice ra rn rc, .slice da dn dc]
def eSg (s : Sg) (ra : Option Addr) (rc : Nat) (da : Option Addr) (dc : Nat) : List Value := sg s.q s.a s.w (bt s.f 0) (bt s.f 1) (bt s.f 2) (bt s.f 3) ra s.sk.length rc da s.d.length dc
set_option maxHeartbeats 4000000 in
set_option maxRecDepth 100000 in
theorem fault_sp (s : Sg) (h : Rng s) (r : Res) (ra : Option Addr) (rc : Nat) (da : Option Addr) (dc : Nat) [hr : RdR r ra s.sk.length rc 2 (flat eR s.sk)] :
    Spec Try.prog 67 [.agg (eSg s ra rc da dc).toArray] [r] fun v give => v = .int .i64 (flt s) ∧ give = [r] := by
  have hw1 := h.w.1
  have hw2 := h.w.2
  unfold eSg sg
  refine Spec.intro Try.func67 rfl Try.ntmps67 rfl fun w0 rest rs_ hrs_ => ?_
  simp only [List.cons_append, List.nil_append] at hrs_
  subst hrs_
  repeat (first | refine GC.seq ?_ | refine GC.region ?_)
  refine G.box rfl rfl rfl (fun b => ?_)
  repeat (first | (apply G.ex (hd := rfl); case h => (first | exact Ex.fieldB rfl | exact Ex.loadB rfl rfl | exact Ex.assign rfl)) | refine G.nil ?_ | refine GC.seq ?_ | refine GC.region ?_ | refine GC.block ?_ | refine GE.then_normal ?_)
  first | refine G.call (caps := []) (serial_sp s.q h.q) rfl rfl rfl rfl (by repeat first | exact tn_ | apply td_ rfl | apply tc_ | exact .here | apply Take1.there) ?_ | refine G.callU (caps := []) (serial_sp s.q h.q) rfl rfl rfl (by repeat first | exact tn_ | apply td_ rfl | apply tc_ | exact .here | apply Take1.there) ?_
  rintro v_ give_ ⟨rfl, rfl⟩ rs_ hrs_
  simp only [List.cons_append, List.nil_append] at hrs_
  subst hrs_
  repeat (first | (apply G.ex (hd := rfl); case h => (first | exact Ex.move rfl | exact Ex.fieldB rfl | exact Ex.loadB rfl rfl | exact Ex.notB rfl)) | refine G.yes rfl rfl ?_)
  first | refine G.call (caps := []) (serial_sp s.a h.a) rfl rfl rfl rfl (by repeat first | exact tn_ | apply td_ rfl | apply tc_ | exact .here | apply Take1.there) ?_ | refine G.callU (caps := []) (serial_sp s.a h.a) rfl rfl rfl (by repeat first | exact tn_ | apply td_ rfl | apply tc_ | exact .here | apply Take1.there) ?_
  rintro v_ give_ ⟨rfl, rfl⟩ rs_ hrs_
  simp only [List.cons_append, List.nil_append] at hrs_
  subst hrs_
  repeat (first | (apply G.ex (hd := rfl); case h => (first | exact Ex.move rfl | exact Ex.fieldB rfl | exact Ex.loadB rfl rfl | exact Ex.lss rfl rfl | exact Ex.gtr rfl rfl | exact Ex.lenSl rfl | exact Ex.assign rfl | exact Ex.notB rfl | exact Ex.pickF rfl (by first | assumption | omega) rfl | exact Ex.pickLF rfl rfl)) | refine G.g_ff rfl rfl (by first | assumption | omega) ?_ | refine G.yes rfl rfl ?_ | refine G.nil ?_ | refine GC.seq ?_ | refine GC.region ?_ | refine GE.then_normal ?_ | refine GC.cond_no rfl (by first | assumption | omega) ?_)
  by_cases h3 : 3 < s.sk.length
  · have e : flt s = 1 := by unfold flt; rw [if_pos (.inl h3)]
    repeat (first | (apply G.ex (hd := rfl); case h => (first | exact Ex.assign rfl | exact Ex.pickT rfl (by first | assumption | omega) rfl)) | refine G.g_ft rfl rfl (by first | assumption | omega) rfl ?_ | refine G.nil ?_ | refine GC.seq ?_ | refine GC.region ?_ | refine GC.ret ?_ | refine GE.then_normal ?_ | refine GE.then_ret ?_ | refine GE.block_ret ?_ | refine GC.cond_t rfl ?_)
    refine GE.ret (by first | exact .inl rfl | exact .inr rfl) (res1 Try.results67 rfl) ⟨by rw [e], rfl⟩ (by repeat first | exact tn_ | apply td_ rfl | apply tc_ | exact .here | apply Take1.there) (by repeat (first | exact Subs.refl | refine Subs.skip ?_))
  · by_cases h64 : 64 < s.d.length
    · have e : flt s = 1 := by unfold flt; rw [if_pos (.inr h64)]
      repeat (first | (apply G.ex (hd := rfl); case h => (first | exact Ex.fieldB rfl | exact Ex.loadB rfl rfl | exact Ex.gtr rfl rfl | exact Ex.lenSl rfl | exact Ex.assign rfl | exact Ex.pickF rfl (by first | assumption | omega) rfl)) | refine G.g_ff rfl rfl (by first | assumption | omega) ?_ | refine G.nil ?_ | refine GC.seq ?_ | refine GC.region ?_ | refine GC.ret ?_ | refine GE.then_normal ?_ | refine GE.then_ret ?_ | refine GE.block_ret ?_ | refine GC.cond_yes rfl (by first | assumption | omega) ?_)
      refine GE.ret (by first | exact .inl rfl | exact .inr rfl) (res1 Try.results67 rfl) ⟨by rw [e], rfl⟩ (by repeat first | exact tn_ | apply td_ rfl | apply tc_ | exact .here | apply Take1.there) (by repeat (first | exact Subs.refl | refine Subs.skip ?_))
    · repeat (first | (apply G.ex (hd := rfl); case h => (first | exact Ex.move rfl | exact Ex.fieldB rfl | exact Ex.loadB rfl rfl | exact Ex.gtr rfl rfl | exact Ex.lenSl rfl | exact Ex.assign rfl | exact Ex.pickF rfl (by first | assumption | omega) rfl)) | refine G.g_ff rfl rfl (by first | assumption | omega) ?_ | refine G.nil ?_ | refine GC.seq ?_ | refine GC.region ?_ | refine GE.then_normal ?_ | refine GC.cond_no rfl (by first | assumption | omega) ?_)
      first | refine G.call (caps := []) (containsNone_sp r ra s.sk.length rc s.sk rfl (by omega) h.sk) rfl rfl rfl rfl (by repeat first | exact tn_ | apply td_ rfl | apply tc_ | exact .here | apply Take1.there) ?_ | refine G.callU (caps := []) (containsNone_sp r ra s.sk.length rc s.sk rfl (by omega) h.sk) rfl rfl rfl (by repeat first | exact tn_ | apply td_ rfl | apply tc_ | exact .here | apply Take1.there) ?_
      rintro v_ give_ ⟨rfl, rfl⟩ rs_ hrs_
      simp only [List.cons_append, List.nil_append] at hrs_
      subst hrs_
      have e : flt s = if bt s.f 3 = false ∧ (s.a ≠ 0 ∨ s.w ≠ 0 ∨ s.sk ≠ []) then 4 else 0 := by unfold flt; rw [if_neg (by omega)]
      cases hb : bt s.f 3 with
      | true =>
        rw [hb, if_neg (by simp)] at e
        repeat (first | (apply G.ex (hd := rfl); case h => (first | exact Ex.move rfl | exact Ex.fieldB rfl | exact Ex.loadB rfl rfl | exact Ex.assign rfl | exact Ex.notB rfl | exact Ex.pickLF rfl rfl)) | refine G.g_un rfl rfl rfl ?_ | refine G.l_tf rfl rfl rfl ?_ | refine G.nil ?_ | refine GC.seq ?_ | refine GC.region ?_ | refine GC.skip ?_ | refine GC.ret ?_ | refine GE.then_normal ?_ | refine GE.block_normal ?_ | refine GC.cond_f rfl ?_)
        refine GE.ret (by first | exact .inl rfl | exact .inr rfl) (res1 Try.results67 rfl) ⟨by rw [e], rfl⟩ (by repeat first | exact tn_ | apply td_ rfl | apply tc_ | exact .here | apply Take1.there) (by repeat (first | exact Subs.refl | refine Subs.skip ?_))
      | false =>
        rw [hb] at e
        by_cases ha : s.a = 0
        · by_cases hw : s.w = 0
          · by_cases hs : 0 < s.sk.length
            · rw [if_pos ⟨rfl, .inr (.inr (fun h => by rw [h] at hs; simp at hs))⟩] at e
              repeat (first | (apply G.ex (hd := rfl); case h => (first | exact Ex.move rfl | exact Ex.fieldB rfl | exact Ex.loadB rfl rfl | exact Ex.gtr rfl rfl | exact Ex.neI rfl rfl | exact Ex.lenSl rfl | exact Ex.assign rfl | exact Ex.notB rfl | exact Ex.pickF rfl (by first | assumption | omega) rfl | exact Ex.pickLT rfl rfl)) | refine G.g_ff rfl rfl (by first | assumption | omega) ?_ | refine G.yes rfl rfl ?_ | refine G.nil ?_ | refine GC.seq ?_ | refine GC.region ?_ | refine GC.ret ?_ | refine GE.then_normal ?_ | refine GE.then_ret ?_ | refine GE.block_ret ?_ | refine GC.cond_yes rfl (by first | assumption | omega) ?_ | refine GC.cond_f rfl ?_)
              refine GE.ret (by first | exact .inl rfl | exact .inr rfl) (res1 Try.results67 rfl) ⟨by rw [e], rfl⟩ (by repeat first | exact tn_ | apply td_ rfl | apply tc_ | exact .here | apply Take1.there) (by repeat (first | exact Subs.refl | refine Subs.skip ?_))
            · have hs0 : s.sk = [] := List.length_eq_zero_iff.1 (by omega)
              rw [if_neg (by rintro ⟨_, k | k | k⟩ <;> exact k (by assumption))] at e
              repeat (first | (apply G.ex (hd := rfl); case h => (first | exact Ex.move rfl | exact Ex.fieldB rfl | exact Ex.loadB rfl rfl | exact Ex.gtr rfl rfl | exact Ex.neI rfl rfl | exact Ex.lenSl rfl | exact Ex.assign rfl | exact Ex.notB rfl | exact Ex.pickF rfl (by first | assumption | omega) rfl | exact Ex.pickLT rfl rfl)) | refine G.g_ff rfl rfl (by first | assumption | omega) ?_ | refine G.yes rfl rfl ?_ | refine G.nil ?_ | refine GC.seq ?_ | refine GC.region ?_ | refine GC.skip ?_ | refine GC.ret ?_ | refine GE.then_normal ?_ | refine GE.block_normal ?_ | refine GC.cond_no rfl (by first | assumption | omega) ?_ | refine GC.cond_f rfl ?_)
              refine GE.ret (by first | exact .inl rfl | exact .inr rfl) (res1 Try.results67 rfl) ⟨by rw [e], rfl⟩ (by repeat first | exact tn_ | apply td_ rfl | apply tc_ | exact .here | apply Take1.there) (by repeat (first | exact Subs.refl | refine Subs.skip ?_))
          · rw [if_pos ⟨rfl, .inr (.inl hw)⟩] at e
            repeat (first | (apply G.ex (hd := rfl); case h => (first | exact Ex.move rfl | exact Ex.fieldB rfl | exact Ex.loadB rfl rfl | exact Ex.neI rfl rfl | exact Ex.assign rfl | exact Ex.notB rfl | exact Ex.pickT rfl (by first | assumption | omega) rfl | exact Ex.pickF rfl (by first | assumption | omega) rfl | exact Ex.pickLT rfl rfl)) | refine G.g_ft rfl rfl (by first | assumption | omega) rfl ?_ | refine G.g_ff rfl rfl (by first | assumption | omega) ?_ | refine G.yes rfl rfl ?_ | refine G.nil ?_ | refine GC.seq ?_ | refine GC.region ?_ | refine GC.ret ?_ | refine GE.then_normal ?_ | refine GE.then_ret ?_ | refine GE.block_ret ?_ | refine GC.cond_t rfl ?_ | refine GC.cond_f rfl ?_)
            refine GE.ret (by first | exact .inl rfl | exact .inr rfl) (res1 Try.results67 rfl) ⟨by rw [e], rfl⟩ (by repeat first | exact tn_ | apply td_ rfl | apply tc_ | exact .here | apply Take1.there) (by repeat (first | exact Subs.refl | refine Subs.skip ?_))
        · rw [if_pos ⟨rfl, .inl ha⟩] at e
          repeat (first | (apply G.ex (hd := rfl); case h => (first | exact Ex.move rfl | exact Ex.fieldB rfl | exact Ex.loadB rfl rfl | exact Ex.neI rfl rfl | exact Ex.assign rfl | exact Ex.notB rfl | exact Ex.pickT rfl (by first | assumption | omega) rfl | exact Ex.pickLT rfl rfl)) | refine G.g_ft rfl rfl (by first | assumption | omega) rfl ?_ | refine G.yes rfl rfl ?_ | refine G.l_ft rfl rfl rfl ?_ | refine G.nil ?_ | refine GC.seq ?_ | refine GC.region ?_ | refine GC.ret ?_ | refine GE.then_normal ?_ | refine GE.then_ret ?_ | refine GE.block_ret ?_ | refine GC.cond_t rfl ?_ | refine GC.cond_f rfl ?_)
          refine GE.ret (by first | exact .inl rfl | exact .inr rfl) (res1 Try.results67 rfl) ⟨by rw [e], rfl⟩ (by repeat first | exact tn_ | apply td_ rfl | apply tc_ | exact .here | apply Take1.there) (by repeat (first | exact Subs.refl | refine Subs.skip ?_))
end seg
end Go.Proofs.Ytcllddkhnbnigaa
