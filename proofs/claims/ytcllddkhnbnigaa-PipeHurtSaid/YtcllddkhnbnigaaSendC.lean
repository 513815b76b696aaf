/-
  CONTRACT of who sends: heard, by the kit.
-/
import Derived.Test.YtcllddkhnbnigaaSendB
namespace Go.Proofs.Ytcllddkhnbnigaa
open Go.RowKit
attribute [local irreducible] Ex G GC GE Gq FPost LPost
set_option linter.unusedVariables false
set_option linter.unusedSimpArgs false
namespace send
open hole
theorem adds_app : ∀ (l m : List R) (st : Int × List R), adds st (l ++ m) = (adds st l).bind fun s => adds s m
  | [], m, st => rfl
  | r :: t, m, st => by
    simp only [List.cons_append, adds]
    split
    · rfl
    · exact adds_app t m _
theorem adds_step {st s' : Int × List R} {l : List R} {k : Nat} (hk : k < l.length) (h : adds st (l.take k) = some s') : adds st (l.take (k + 1)) = if 16 < (add s'.1 s'.2 (l.getD k default)).2.length then none else some (add s'.1 s'.2 (l.getD k default)) := by
  rw [getD_take l k hk, adds_app, h]
  simp only [Option.bind_some, adds]
theorem adds_none {st : Int × List R} {l : List R} {k : Nat} (h : adds st (l.take k) = none) : adds st l = none := by
  rw [← List.take_append_drop k l, adds_app, h]; rfl
/-- a deed as it lies in memory -/
def eDe (kind : Int) (bo : Option Addr) (bn bc : Nat) (ack win : Int) (so : Option Addr) (sn sc : Nat) : List Value := [.int .i64 kind, .slice bo bn bc, .int .i64 ack, .int .i64 win, .slice so sn sc]
set_option maxHeartbeats 8000000 in
theorem heard_sp (hb : Nat) (s : Se) (hk : SOk s) (da : Option Addr) (dc : Nat) (mo : Option Addr) (mc : Nat) (kind : Int) (bo : Option Addr) (bn bc : Nat) (ack win : Int) (so : Option Addr) (sc : Nat) (l : List R) (hll : l.length ≤ 1000000) :
    Spec Try.prog 31 [.pointer (some (badr hb 0)), .agg (eDe kind bo bn bc ack win so l.length sc).toArray] [.blk hb 79 [.slice da (s).data.length dc, .bool (s).closed, .int .i64 (s).done, .slice mo (s).more.length mc, .int .i64 (s).next, .int .i64 (s).again, .int .i64 (s).edge], .sl mo s.more.length mc 2 (flat eR s.more), .sl so l.length sc 2 (flat eR l)] fun v give => ∃ mo' mc', v = .int .i64 (heardF s ack win l).1 ∧ give = [.blk hb 79 [.slice da ((heardF s ack win l).2).data.length dc, .bool ((heardF s ack win l).2).closed, .int .i64 ((heardF s ack win l).2).done, .slice mo' ((heardF s ack win l).2).more.length mc', .int .i64 ((heardF s ack win l).2).next, .int .i64 ((heardF s ack win l).2).again, .int .i64 ((heardF s ack win l).2).edge], .sl mo' (heardF s ack win l).2.more.length mc' 2 (flat eR (heardF s ack win l).2.more)] := by
  have k3 := hk.ne
  have k4 := hk.end1
  have k5 := hk.e0
  have k6 := hk.e1
  have k7 := hk.may.len
  refine Spec.intro Try.func31 rfl Try.ntmps31 rfl fun w0 rest rs_ hrs_ => ?_
  simp only [List.cons_append, List.nil_append] at hrs_
  subst hrs_
  repeat (first | refine GC.seq ?_ | refine GC.region ?_)
  refine G.box rfl rfl rfl (fun pb => ?_)
  rw [show (Value.pointer (some (badr hb 0))).cells.toList = [.pointer (some (badr hb 0))] from rfl]
  repeat (first | refine G.storeB rfl rfl rfl rfl rfl ?_ | refine G.storeBA rfl rfl rfl rfl rfl ?_ | (apply G.ex (hd := rfl); case h => (first | exact Ex.move rfl | exact Ex.nilCheck rfl | exact Ex.lenO rfl | exact Ex.indexO rfl rfl (by omega) | exact Ex.eqO rfl rfl | exact Ex.neO rfl rfl | exact Ex.subLo rfl rfl (by omega) | exact Ex.subHi rfl rfl (by omega) | exact Ex.subMid rfl rfl rfl (by omega) | exact Ex.addO rfl rfl (by omega) | exact Ex.indexPE rfl rfl (by first | omega | (simp; done) | (simp; omega)) | exact Ex.indexPB rfl rfl (by first | omega | (simp; done) | (simp; omega)) | exact Ex.loadP rfl (by omega) | exact Ex.loadPW rfl | exact Ex.loadRP rfl (by first | omega | (simp; done) | (simp; omega)) (by omega) | exact Ex.bld0 | exact Ex.bldR | exact Ex.fieldE rfl | exact Ex.fieldB rfl | exact Ex.loadB rfl rfl | exact Ex.add rfl rfl (by omega) | exact Ex.sub rfl rfl (by omega) | exact Ex.lss rfl rfl | exact Ex.leq rfl rfl | exact Ex.gtr rfl rfl | exact Ex.geq rfl rfl | exact Ex.eqBy rfl rfl | exact Ex.neBy rfl rfl | exact Ex.eqI rfl rfl | exact Ex.neI rfl rfl | exact Ex.lenSl rfl | exact Ex.indexN rfl rfl (by first | omega | (simp; done) | (simp; omega)) | exact Ex.loadT0 rfl (by first | omega | (simp; done) | (simp; omega)) rfl | exact Ex.loadT rfl (by first | omega | (simp; done) | (simp; omega)) rfl | exact Ex.extract rfl rfl | exact Ex.field rfl rfl | exact Ex.assign rfl | exact Ex.min rfl rfl | exact Ex.min3 rfl rfl rfl | exact Ex.max rfl rfl | exact Ex.quo rfl rfl (by omega) | exact Ex.quotB rfl rfl (by omega) | exact Ex.rem rfl rfl (by omega) | exact Ex.mul rfl rfl (by omega) | exact Ex.remt rfl rfl (by omega) | exact Ex.notD rfl | exact Ex.notB rfl | exact Ex.eqS rfl rfl | exact Ex.neS rfl rfl | exact Ex.eqB rfl rfl | exact Ex.neB rfl rfl | exact Ex.lenS rfl | exact Ex.indexS rfl rfl (by first | omega | (simp; done) | (simp; omega)) | exact Ex.neg rfl (by omega) | exact Ex.convS rfl | exact Ex.pickT rfl (by first | assumption | omega) rfl | exact Ex.pickF rfl (by first | assumption | omega) rfl | exact Ex.loadBA rfl rfl rfl | exact Ex.loadTA rfl (by first | omega | (simp; done) | (simp; omega)) | exact Ex.build rfl rfl | exact Ex.pickLT rfl rfl | exact Ex.pickLF rfl rfl | exact Ex.eqA rfl rfl rfl | exact Ex.neA rfl rfl rfl | exact Ex.pick rfl rfl rfl | exact Ex.indexI rfl rfl (by omega) | exact Ex.conv64b rfl | exact Ex.conv64 rfl (by omega) | exact Ex.conv8 rfl | exact Ex.conv16 rfl | exact Ex.shr8 rfl rfl | exact Ex.shr16 rfl rfl | exact Ex.shr24 rfl rfl | exact Ex.shl8b rfl rfl | exact Ex.shl8 rfl rfl (by omega) | exact Ex.orBbb rfl rfl | exact Ex.orBb rfl rfl (by omega) | exact Ex.orB rfl rfl (by omega) | exact Ex.and16 rfl rfl (by omega) | exact Ex.eqNil rfl rfl | exact Ex.neNil rfl rfl | exact Ex.mkFunc rfl | exact Ex.capSl rfl | exact Ex.arrPtr rfl (by omega) | exact Ex.loadArI rfl (by assumption) rfl | exact Ex.eqArrI rfl rfl (by assumption) (by assumption) | exact Ex.loadAr rfl rfl rfl rfl | exact Ex.indexArr rfl rfl (by first | omega | (simp; done) | (simp; omega)) | exact Ex.buildArr rfl rfl | exact Ex.indexV rfl rfl rfl rfl (by omega) | exact Ex.shlK rfl rfl (by omega) | exact Ex.orK rfl rfl (by omega) | exact Ex.shrK rfl rfl (by omega) | exact Ex.andS rfl rfl | exact Ex.andS (k := 0) rfl rfl | exact Ex.andK rfl rfl (by omega) | exact Ex.xorB rfl rfl | exact Ex.and rfl rfl | exact Ex.slHi rfl rfl (by omega) | exact Ex.slLo rfl rfl (by omega) | exact Ex.slLH rfl rfl rfl (by omega) | exact Ex.sl3 rfl rfl rfl rfl (by omega) | exact Ex.convBO rfl (by omega) | exact Ex.loadB rfl (by assumption) | exact Ex.eqP0 rfl rfl | exact Ex.neP0 rfl rfl | exact Ex.nePB rfl rfl)) | refine G.g_tt rfl rfl (by first | assumption | omega) ?_ | refine G.g_tf rfl rfl (by first | assumption | omega) rfl ?_ | refine G.g_ft rfl rfl (by first | assumption | omega) rfl ?_ | refine G.g_ff rfl rfl (by first | assumption | omega) ?_ | refine G.g_un rfl rfl rfl ?_ | refine G.yes rfl rfl ?_ | refine G.l_tf rfl rfl rfl ?_ | refine G.l_ft rfl rfl rfl ?_ | refine G.nil ?_ | (apply Gq.ex (hd := rfl); case h => (first | exact Ex.move rfl | exact Ex.nilCheck rfl | exact Ex.lenO rfl | exact Ex.indexO rfl rfl (by omega) | exact Ex.eqO rfl rfl | exact Ex.neO rfl rfl | exact Ex.subLo rfl rfl (by omega) | exact Ex.subHi rfl rfl (by omega) | exact Ex.subMid rfl rfl rfl (by omega) | exact Ex.addO rfl rfl (by omega) | exact Ex.indexPE rfl rfl (by first | omega | (simp; done) | (simp; omega)) | exact Ex.indexPB rfl rfl (by first | omega | (simp; done) | (simp; omega)) | exact Ex.loadP rfl (by omega) | exact Ex.loadPW rfl | exact Ex.loadRP rfl (by first | omega | (simp; done) | (simp; omega)) (by omega) | exact Ex.bld0 | exact Ex.bldR | exact Ex.fieldE rfl | exact Ex.fieldB rfl | exact Ex.loadB rfl rfl | exact Ex.add rfl rfl (by omega) | exact Ex.sub rfl rfl (by omega) | exact Ex.lss rfl rfl | exact Ex.leq rfl rfl | exact Ex.gtr rfl rfl | exact Ex.geq rfl rfl | exact Ex.eqBy rfl rfl | exact Ex.neBy rfl rfl | exact Ex.eqI rfl rfl | exact Ex.neI rfl rfl | exact Ex.lenSl rfl | exact Ex.indexN rfl rfl (by first | omega | (simp; done) | (simp; omega)) | exact Ex.loadT0 rfl (by first | omega | (simp; done) | (simp; omega)) rfl | exact Ex.loadT rfl (by first | omega | (simp; done) | (simp; omega)) rfl | exact Ex.extract rfl rfl | exact Ex.field rfl rfl | exact Ex.assign rfl | exact Ex.min rfl rfl | exact Ex.min3 rfl rfl rfl | exact Ex.max rfl rfl | exact Ex.quo rfl rfl (by omega) | exact Ex.quotB rfl rfl (by omega) | exact Ex.rem rfl rfl (by omega) | exact Ex.mul rfl rfl (by omega) | exact Ex.remt rfl rfl (by omega) | exact Ex.notD rfl | exact Ex.notB rfl | exact Ex.eqS rfl rfl | exact Ex.neS rfl rfl | exact Ex.eqB rfl rfl | exact Ex.neB rfl rfl | exact Ex.lenS rfl | exact Ex.indexS rfl rfl (by first | omega | (simp; done) | (simp; omega)) | exact Ex.neg rfl (by omega) | exact Ex.convS rfl | exact Ex.pickT rfl (by first | assumption | omega) rfl | exact Ex.pickF rfl (by first | assumption | omega) rfl | exact Ex.loadBA rfl rfl rfl | exact Ex.loadTA rfl (by first | omega | (simp; done) | (simp; omega)) | exact Ex.build rfl rfl | exact Ex.pickLT rfl rfl | exact Ex.pickLF rfl rfl | exact Ex.eqA rfl rfl rfl | exact Ex.neA rfl rfl rfl | exact Ex.pick rfl rfl rfl | exact Ex.indexI rfl rfl (by omega) | exact Ex.conv64b rfl | exact Ex.conv64 rfl (by omega) | exact Ex.conv8 rfl | exact Ex.conv16 rfl | exact Ex.shr8 rfl rfl | exact Ex.shr16 rfl rfl | exact Ex.shr24 rfl rfl | exact Ex.shl8b rfl rfl | exact Ex.shl8 rfl rfl (by omega) | exact Ex.orBbb rfl rfl | exact Ex.orBb rfl rfl (by omega) | exact Ex.orB rfl rfl (by omega) | exact Ex.and16 rfl rfl (by omega) | exact Ex.eqNil rfl rfl | exact Ex.neNil rfl rfl | exact Ex.mkFunc rfl | exact Ex.capSl rfl | exact Ex.arrPtr rfl (by omega) | exact Ex.loadArI rfl (by assumption) rfl | exact Ex.eqArrI rfl rfl (by assumption) (by assumption) | exact Ex.loadAr rfl rfl rfl rfl | exact Ex.indexArr rfl rfl (by first | omega | (simp; done) | (simp; omega)) | exact Ex.buildArr rfl rfl | exact Ex.indexV rfl rfl rfl rfl (by omega) | exact Ex.shlK rfl rfl (by omega) | exact Ex.orK rfl rfl (by omega) | exact Ex.shrK rfl rfl (by omega) | exact Ex.andS rfl rfl | exact Ex.andS (k := 0) rfl rfl | exact Ex.andK rfl rfl (by omega) | exact Ex.xorB rfl rfl | exact Ex.and rfl rfl | exact Ex.slHi rfl rfl (by omega) | exact Ex.slLo rfl rfl (by omega) | exact Ex.slLH rfl rfl rfl (by omega) | exact Ex.sl3 rfl rfl rfl rfl (by omega) | exact Ex.convBO rfl (by omega) | exact Ex.loadB rfl (by assumption) | exact Ex.eqP0 rfl rfl | exact Ex.neP0 rfl rfl | exact Ex.nePB rfl rfl)) | refine Gq.g_tt rfl rfl (by first | assumption | omega) ?_ | refine Gq.g_tf rfl rfl (by first | assumption | omega) rfl ?_ | refine Gq.g_ft rfl rfl (by first | assumption | omega) rfl ?_ | refine Gq.g_ff rfl rfl (by first | assumption | omega) ?_ | refine Gq.g_un rfl rfl rfl ?_ | refine Gq.yes rfl rfl ?_ | refine Gq.l_tf rfl rfl rfl ?_ | refine Gq.l_ft rfl rfl rfl ?_ | refine Gq.nil ?_ | refine GC.seq ?_ | refine GC.region ?_ | refine GC.block ?_ | refine GC.skip ?_ | refine GC.ret ?_ | refine GC.exit ?_ | refine GE.then_normal ?_ | refine GE.then_ret ?_ | refine GE.then_exit ?_ | refine GE.block_normal ?_ | refine GE.block_ret ?_ | refine GE.block_hit ?_ | refine GE.block_miss rfl ?_ | refine GC.cond_yes rfl (by first | assumption | omega) ?_ | refine GC.cond_no rfl (by first | assumption | omega) ?_ | refine GC.cond_t rfl ?_ | refine GC.cond_f rfl ?_ | refine GC.scope ?_ | refine GE.ng_normal ?_ | refine GE.ng_ret ?_ | refine GE.ng_exit ?_ | refine GC.label ?_)
  refine G.box rfl rfl rfl (fun ab => ?_)
  rw [show (Value.agg (eDe kind bo bn bc ack win so l.length sc).toArray).cells.toList = [.int .i64 kind, .slice bo bn bc, .int .i64 ack, .int .i64 win, .slice so l.length sc] from rfl]
  by_cases h1 : ack < 0
  · have hr : heardF s ack win l = (2, s) := by unfold heardF; rw [if_pos (.inl h1)]
    rw [hr]
    repeat (first | (apply G.ex (hd := rfl); case h => (first | exact Ex.assign rfl | exact Ex.mkFunc rfl)) | refine G.nil ?_ | (apply Gq.ex (hd := rfl); case h => (first | exact Ex.move rfl | exact Ex.fieldB rfl | exact Ex.loadB rfl rfl | exact Ex.lss rfl rfl | exact Ex.assign rfl | exact Ex.pickT rfl (by first | assumption | omega) rfl | exact Ex.pickLT rfl rfl)) | refine Gq.g_ft rfl rfl (by first | assumption | omega) rfl ?_ | refine Gq.l_ft rfl rfl rfl ?_ | refine Gq.nil ?_ | refine GC.seq ?_ | refine GC.region ?_ | refine GC.draw (by kernel_rfl) (by kernel_rfl) ?_ | refine GC.block ?_ | refine GC.ret ?_ | refine GE.then_normal ?_ | refine GE.then_ret ?_ | refine GE.block_ret ?_ | refine GC.cond_t rfl ?_)
    refine GE.ret (by first | exact .inl rfl | exact .inr rfl) (res1 Try.results31 rfl) ⟨mo, mc, rfl, rfl⟩ (by repeat first | exact tn_ | apply td_ rfl | apply tc_ | exact .here | apply Take1.there) (by repeat (first | exact Subs.refl | refine Subs.skip ?_))
  by_cases h2 : s.next < ack
  · have hr : heardF s ack win l = (2, s) := by unfold heardF; rw [if_pos (.inr (.inl h2))]
    rw [hr]
    repeat (first | (apply G.ex (hd := rfl); case h => (first | exact Ex.assign rfl | exact Ex.mkFunc rfl)) | refine G.nil ?_ | (apply Gq.ex (hd := rfl); case h => (first | exact Ex.move rfl | exact Ex.nilCheck rfl | exact Ex.fieldB rfl | exact Ex.loadB rfl rfl | exact Ex.lss rfl rfl | exact Ex.gtr rfl rfl | exact Ex.assign rfl | exact Ex.pickT rfl (by first | assumption | omega) rfl | exact Ex.pickF rfl (by first | assumption | omega) rfl | exact Ex.pickLT rfl rfl)) | refine Gq.g_ft rfl rfl (by first | assumption | omega) rfl ?_ | refine Gq.g_ff rfl rfl (by first | assumption | omega) ?_ | refine Gq.l_ft rfl rfl rfl ?_ | refine Gq.nil ?_ | refine GC.seq ?_ | refine GC.region ?_ | refine GC.draw (by kernel_rfl) (by kernel_rfl) ?_ | refine GC.block ?_ | refine GC.ret ?_ | refine GE.then_normal ?_ | refine GE.then_ret ?_ | refine GE.block_ret ?_ | refine GC.cond_t rfl ?_)
    refine GE.ret (by first | exact .inl rfl | exact .inr rfl) (res1 Try.results31 rfl) ⟨mo, mc, rfl, rfl⟩ (by repeat first | exact tn_ | apply td_ rfl | apply tc_ | exact .here | apply Take1.there) (by repeat (first | exact Subs.refl | refine Subs.skip ?_))
  by_cases h3 : win < 0
  · have hr : heardF s ack win l = (2, s) := by unfold heardF; rw [if_pos (.inr (.inr (.inl h3)))]
    rw [hr]
    repeat (first | (apply G.ex (hd := rfl); case h => (first | exact Ex.assign rfl | exact Ex.mkFunc rfl)) | refine G.nil ?_ | (apply Gq.ex (hd := rfl); case h => (first | exact Ex.move rfl | exact Ex.nilCheck rfl | exact Ex.fieldB rfl | exact Ex.loadB rfl rfl | exact Ex.lss rfl rfl | exact Ex.gtr rfl rfl | exact Ex.assign rfl | exact Ex.pickT rfl (by first | assumption | omega) rfl | exact Ex.pickF rfl (by first | assumption | omega) rfl)) | refine Gq.g_ft rfl rfl (by first | assumption | omega) rfl ?_ | refine Gq.g_ff rfl rfl (by first | assumption | omega) ?_ | refine Gq.nil ?_ | refine GC.seq ?_ | refine GC.region ?_ | refine GC.draw (by kernel_rfl) (by kernel_rfl) ?_ | refine GC.block ?_ | refine GC.ret ?_ | refine GE.then_normal ?_ | refine GE.then_ret ?_ | refine GE.block_ret ?_ | refine GC.cond_t rfl ?_)
    refine GE.ret (by first | exact .inl rfl | exact .inr rfl) (res1 Try.results31 rfl) ⟨mo, mc, rfl, rfl⟩ (by repeat first | exact tn_ | apply td_ rfl | apply tc_ | exact .here | apply Take1.there) (by repeat (first | exact Subs.refl | refine Subs.skip ?_))
  by_cases h4 : 65535 < win
  · have hr : heardF s ack win l = (2, s) := by unfold heardF; rw [if_pos (.inr (.inr (.inr h4)))]
    rw [hr]
    repeat (first | (apply G.ex (hd := rfl); case h => (first | exact Ex.assign rfl | exact Ex.mkFunc rfl)) | refine G.nil ?_ | (apply Gq.ex (hd := rfl); case h => (first | exact Ex.move rfl | exact Ex.nilCheck rfl | exact Ex.fieldB rfl | exact Ex.loadB rfl rfl | exact Ex.lss rfl rfl | exact Ex.gtr rfl rfl | exact Ex.assign rfl | exact Ex.pickF rfl (by first | assumption | omega) rfl)) | refine Gq.g_ff rfl rfl (by first | assumption | omega) ?_ | refine Gq.nil ?_ | refine GC.seq ?_ | refine GC.region ?_ | refine GC.draw (by kernel_rfl) (by kernel_rfl) ?_ | refine GC.block ?_ | refine GC.ret ?_ | refine GE.then_normal ?_ | refine GE.then_ret ?_ | refine GE.block_ret ?_ | refine GC.cond_yes rfl (by first | assumption | omega) ?_)
    refine GE.ret (by first | exact .inl rfl | exact .inr rfl) (res1 Try.results31 rfl) ⟨mo, mc, rfl, rfl⟩ (by repeat first | exact tn_ | apply td_ rfl | apply tc_ | exact .here | apply Take1.there) (by repeat (first | exact Subs.refl | refine Subs.skip ?_))
  have hno : ¬ (ack < 0 ∨ s.next < ack ∨ win < 0 ∨ 65535 < win) := by omega
  by_cases h5 : 3 < l.length
  · have hr : heardF s ack win l = (1, s) := by unfold heardF; rw [if_neg hno, if_pos h5]
    rw [hr]
    repeat (first | (apply G.ex (hd := rfl); case h => (first | exact Ex.fieldB rfl | exact Ex.loadB rfl rfl | exact Ex.gtr rfl rfl | exact Ex.lenSl rfl | exact Ex.assign rfl | exact Ex.mkFunc rfl)) | refine G.nil ?_ | (apply Gq.ex (hd := rfl); case h => (first | exact Ex.move rfl | exact Ex.nilCheck rfl | exact Ex.fieldB rfl | exact Ex.loadB rfl rfl | exact Ex.lss rfl rfl | exact Ex.gtr rfl rfl | exact Ex.assign rfl | exact Ex.pickF rfl (by first | assumption | omega) rfl)) | refine Gq.g_ff rfl rfl (by first | assumption | omega) ?_ | refine Gq.nil ?_ | refine GC.seq ?_ | refine GC.region ?_ | refine GC.draw (by kernel_rfl) (by kernel_rfl) ?_ | refine GC.block ?_ | refine GC.ret ?_ | refine GE.then_normal ?_ | refine GE.then_ret ?_ | refine GE.block_ret ?_ | refine GC.cond_yes rfl (by first | assumption | omega) ?_ | refine GC.cond_no rfl (by first | assumption | omega) ?_)
    refine GE.ret (by first | exact .inl rfl | exact .inr rfl) (res1 Try.results31 rfl) ⟨mo, mc, rfl, rfl⟩ (by repeat first | exact tn_ | apply td_ rfl | apply tc_ | exact .here | apply Take1.there) (by repeat (first | exact Subs.refl | refine Subs.skip ?_))
  repeat (first | (apply G.ex (hd := rfl); case h => (first | exact Ex.move rfl | exact Ex.fieldB rfl | exact Ex.loadB rfl rfl | exact Ex.gtr rfl rfl | exact Ex.lenSl rfl | exact Ex.assign rfl | exact Ex.mkFunc rfl)) | refine G.nil ?_ | (apply Gq.ex (hd := rfl); case h => (first | exact Ex.move rfl | exact Ex.nilCheck rfl | exact Ex.fieldB rfl | exact Ex.loadB rfl rfl | exact Ex.lss rfl rfl | exact Ex.gtr rfl rfl | exact Ex.assign rfl | exact Ex.pickF rfl (by first | assumption | omega) rfl)) | refine Gq.g_ff rfl rfl (by first | assumption | omega) ?_ | refine Gq.nil ?_ | refine GC.seq ?_ | refine GC.region ?_ | refine GC.draw (by kernel_rfl) (by kernel_rfl) ?_ | refine GC.block ?_ | refine GE.then_normal ?_ | refine GC.cond_no rfl (by first | assumption | omega) ?_)
  first | refine G.call (caps := []) (containsO_sp hb pb s da dc mo mc (.sl so l.length sc 2 (flat eR l)) so l.length sc l rfl (by omega)) rfl rfl rfl rfl (by repeat first | exact tn_ | apply td_ rfl | apply tc_ | exact .here | apply Take1.there) ?_ | refine G.callU (caps := []) (containsO_sp hb pb s da dc mo mc (.sl so l.length sc 2 (flat eR l)) so l.length sc l rfl (by omega)) rfl rfl rfl (by repeat first | exact tn_ | apply td_ rfl | apply tc_ | exact .here | apply Take1.there) ?_
  rintro v_ give_ ⟨rfl, rfl⟩ rs_ hrs_
  simp only [List.cons_append, List.nil_append] at hrs_
  subst hrs_
  cases h6 : l.any (odd s.next) with
  | true =>
    have hr : heardF s ack win l = (2, s) := by unfold heardF; rw [if_neg hno, if_neg h5, if_pos h6]
    rw [hr]
    repeat (first | (apply G.ex (hd := rfl); case h => (first | exact Ex.assign rfl)) | refine G.nil ?_ | refine GC.seq ?_ | refine GC.region ?_ | refine GC.ret ?_ | refine GE.then_normal ?_ | refine GE.then_ret ?_ | refine GE.block_ret ?_ | refine GC.cond_t rfl ?_)
    refine GE.ret (by first | exact .inl rfl | exact .inr rfl) (res1 Try.results31 rfl) ⟨mo, mc, rfl, rfl⟩ (by repeat first | exact tn_ | apply td_ rfl | apply tc_ | exact .here | apply Take1.there) (by repeat (first | exact Subs.refl | refine Subs.skip ?_))
  | false =>
    have hodd := odd_no (n := s.next) (l := l) (by rw [h6]; decide)
    have hr0 : heardF s ack win l = match adds (s.done, s.more) ((0, ack) :: l) with | none => (9, s) | some st => (0, { s with done := st.1, more := st.2, edge := max s.edge (ack + win) }) := by
      unfold heardF; rw [if_neg hno, if_neg h5, if_neg (by rw [h6]; decide)]; rfl
    obtain ⟨L, hL⟩ : ∃ L : List R, L = (0, ack) :: l := ⟨_, rfl⟩
    have hLl : L.length = l.length + 1 := by rw [hL]; rfl
    have hLb : ∀ r ∈ L, 0 ≤ r.1 ∧ r.1 ≤ r.2 ∧ r.2 ≤ s.next := by
      intro r hr
      rw [hL] at hr
      rcases List.mem_cons.1 hr with rfl | hr
      · simp only; omega
      · have := hodd r hr; omega
    rw [← hL] at hr0
    repeat (first | (apply G.ex (hd := rfl); case h => (first | exact Ex.fieldB rfl | exact Ex.loadB rfl rfl | exact Ex.assign rfl | exact Ex.build rfl rfl)) | refine G.nil ?_ | (apply Gq.ex (hd := rfl); case h => (first | exact Ex.nilCheck rfl | exact Ex.fieldB rfl | exact Ex.loadB rfl rfl | exact Ex.assign rfl)) | refine Gq.nil ?_ | refine GC.seq ?_ | refine GC.region ?_ | refine GC.draw (by kernel_rfl) (by kernel_rfl) ?_ | refine GC.skip ?_ | refine GE.then_normal ?_ | refine GE.block_normal ?_ | refine GC.cond_f rfl ?_)
    refine G.lit (cells := flat eR [(0, ack)]) rfl (by rfl) (by rfl) (by rfl) (by rfl) (by rfl) (by rfl) rfl (fun q => ?_)
    repeat (first | (apply G.ex (hd := rfl); case h => (first | exact Ex.fieldB rfl | exact Ex.loadB rfl rfl)))
    refine G.lit rfl (by rfl) (by rfl) (by rfl) (by rfl) (by rfl) (by rfl) rfl (fun q' => ?_)
    first | refine G.frz q ?_ | refine GC.frz q ?_ | refine GE.frz q ?_
    first | refine G.frz q' ?_ | refine GC.frz q' ?_ | refine GE.frz q' ?_
    refine G.conv (fun w_ H_ => H_.rdNil eR 2) ?_
    refine G.conv (fun w_ H_ => Holds.rdSnoc (x := ⟨q, 1, 1, [(0, ack)]⟩) (H_.take (need := [.sl q 1 1 2 (flat eR [(0, ack)]), .per (Rd eR 2 [])]) (by repeat first | exact tn_ | apply td_ rfl | apply tc_ | exact .here | apply Take1.there))) ?_
    try simp only [List.append_eq, List.nil_append, List.cons_append]
    refine G.conv (fun w_ H_ => Holds.rdSnoc (x := ⟨so, l.length, sc, l⟩) (H_.take (need := [.sl so l.length sc 2 (flat eR l), .per (Rd eR 2 ([] ++ [⟨q, 1, 1, [(0, ack)]⟩]))]) (by repeat first | exact tn_ | apply td_ rfl | apply tc_ | exact .here | apply Take1.there))) ?_
    try simp only [List.append_eq, List.nil_append, List.cons_append]
    have htot : tot [⟨q, 1, 1, [(0, ack)]⟩, ⟨so, l.length, sc, l⟩] = L := by rw [hL]; simp [tot]
    first | refine G.call (caps := []) (concatR_sp q' 2 2 [⟨q, 1, 1, [(0, ack)]⟩, ⟨so, l.length, sc, l⟩] rfl (by omega) (by intro x hx; simp at hx; rcases hx with rfl | rfl <;> rfl) (by rw [htot, hLl]; omega)) rfl rfl rfl rfl (by repeat first | exact tn_ | apply td_ rfl | apply tc_ | exact .here | apply Take1.there) ?_ | refine G.callU (caps := []) (concatR_sp q' 2 2 [⟨q, 1, 1, [(0, ack)]⟩, ⟨so, l.length, sc, l⟩] rfl (by omega) (by intro x hx; simp at hx; rcases hx with rfl | rfl <;> rfl) (by rw [htot, hLl]; omega)) rfl rfl rfl (by repeat first | exact tn_ | apply td_ rfl | apply tc_ | exact .here | apply Take1.there) ?_
    rintro v_ give_ ⟨oa, oc, rfl, rfl⟩ rs_ hrs_
    simp only [List.cons_append, List.nil_append] at hrs_
    subst hrs_
    rw [htot]
    first | refine G.frz oa ?_ | refine GC.frz oa ?_ | refine GE.frz oa ?_
    repeat (first | (apply G.ex (hd := rfl); case h => (first | exact Ex.move rfl | exact Ex.lenSl rfl)) | refine G.nil ?_ | refine GC.block ?_ | refine GE.then_normal ?_)
    refine GC.loop (ι := Nat × (Int × List R) × (Option Addr × Nat)) (fun x => x.1 ≤ L.length ∧ adds (s.done, s.more) (L.take x.1) = some x.2.1) (fun x => L.length - x.1) (fun x => [(2, .pointer (some (badr pb 0))), (3, .pointer (some (badr ab 0))), (6, .int .i64 x.2.1.1), (7, .slice x.2.2.1 x.2.1.2.length x.2.2.2), (60, .slice oa L.length oc), (61, .int .i64 (L.length : Int)), (62, .int .i64 (x.1 : Int))]) (fun x => [.blk ab 63 [.int .i64 kind, .slice bo bn bc, .int .i64 ack, .int .i64 win, .slice so l.length sc], .blk pb 54 [.pointer (some (badr hb 0))], .blk hb 79 [.slice da (s).data.length dc, .bool (s).closed, .int .i64 (s).done, .slice mo (s).more.length mc, .int .i64 (s).next, .int .i64 (s).again, .int .i64 (s).edge], .sl mo s.more.length mc 2 (flat eR s.more), .sl x.2.2.1 x.2.1.2.length x.2.2.2 2 (flat eR x.2.1.2), .sl oa L.length oc 2 (flat eR L)]) (0, (s.done, s.more), (mo, mc)) ⟨Nat.zero_le _, rfl⟩ (by simp only [fits]; repeat (first | exact trivial | refine And.intro rfl ?_)) (by repeat first | exact tn_ | apply td_ rfl | apply tc_ | exact .here | apply Take1.there) ?_
    rintro ⟨k, ⟨D, m⟩, ⟨ma, mc1⟩⟩ ⟨hk1, hs⟩ fr_ rs_ hfr_ hrs_
    simp only [List.cons_append, List.nil_append] at hfr_ hrs_
    subst hfr_ hrs_
    simp only at hk1 hs
    obtain ⟨hmay, hla, _, _⟩ := adds_ok s.next (L.take k) _ _ hs (fun r hr => hLb r (List.mem_of_mem_take hr)) (by omega) hk.may hk.la
    simp only at hmay hla
    repeat (first | (apply G.ex (hd := rfl); case h => (first | exact Ex.lss rfl rfl)) | refine G.nil ?_ | refine GC.seq ?_ | refine GC.region ?_ | refine GE.then_normal ?_)
    refine GC.cond_dec rfl (fun hlt => ?_) (fun hlt => ?_)
    · have hlt : k < L.length := by omega
      have hst := adds_step hlt hs
      have hb3 := hLb _ (getD_mem' L k hlt)
      simp only at hst
      repeat (first | (apply G.ex (hd := rfl); case h => (first | exact Ex.indexN rfl rfl (by first | omega | (simp; done) | (simp; omega)) | exact Ex.loadTA rfl (by first | omega | (simp; done) | (simp; omega)))) | refine GC.seq ?_ | refine GC.region ?_ | refine GC.block ?_ | refine GC.skip ?_ | refine GE.then_normal ?_)
      refine G.alloc rfl (fun rb => ?_)
      repeat (first | refine G.storeBA rfl rfl rfl rfl rfl ?_ | (apply G.ex (hd := rfl); case h => (first | exact Ex.move rfl | exact Ex.assign rfl | exact Ex.loadBA rfl rfl rfl)) | refine G.nil ?_ | refine GC.seq ?_ | refine GC.region ?_ | refine GE.then_normal ?_)
      generalize L.getD k default = r at *
      obtain ⟨r1, r2⟩ := r
      simp only at hb3
      by_cases hfull : 16 < (add D m (r1, r2)).2.length
      · rw [if_pos hfull] at hst
        have hr : heardF s ack win l = (9, s) := by rw [hr0, adds_none hst]
        rw [hr]
        have h90 : ¬ (9 : Int) = 0 := by decide
        first | refine G.call (caps := []) (add_full_sp D ma m.length mc1 m r1 r2 rfl hmay (by omega) (by omega) (by omega) hfull) rfl rfl rfl rfl (by repeat first | exact tn_ | apply td_ rfl | apply tc_ | exact .here | apply Take1.there) ?_ | refine G.callU (caps := []) (add_full_sp D ma m.length mc1 m r1 r2 rfl hmay (by omega) (by omega) (by omega) hfull) rfl rfl rfl (by repeat first | exact tn_ | apply td_ rfl | apply tc_ | exact .here | apply Take1.there) ?_
        rintro v_ give_ ⟨rfl, rfl⟩ rs_ hrs_
        simp only [List.cons_append, List.nil_append] at hrs_
        subst hrs_
        repeat (first | (apply G.ex (hd := rfl); case h => (first | exact Ex.move rfl | exact Ex.neI rfl rfl | exact Ex.extract rfl rfl | exact Ex.assign rfl)) | refine G.nil ?_ | refine GC.seq ?_ | refine GC.region ?_ | refine GC.ret ?_ | refine GE.then_normal ?_ | refine GE.then_ret ?_ | refine GE.block_ret ?_ | refine GC.cond_yes rfl (by first | assumption | omega) ?_)
        refine GE.ret (by first | exact .inl rfl | exact .inr rfl) (res1 Try.results31 rfl) ⟨mo, mc, rfl, rfl⟩ (by repeat first | exact tn_ | apply td_ rfl | apply tc_ | exact .here | apply Take1.there) (by repeat (first | exact Subs.refl | refine Subs.skip ?_))
      · rw [if_neg hfull] at hst
        have h00 : ¬ ¬ (0 : Int) = 0 := by decide
        first | refine G.call (caps := []) (add_sp D ma m.length mc1 m r1 r2 rfl hmay (by omega) (by omega) (by omega) (by omega)) rfl rfl rfl rfl (by repeat first | exact tn_ | apply td_ rfl | apply tc_ | exact .here | apply Take1.there) ?_ | refine G.callU (caps := []) (add_sp D ma m.length mc1 m r1 r2 rfl hmay (by omega) (by omega) (by omega) (by omega)) rfl rfl rfl (by repeat first | exact tn_ | apply td_ rfl | apply tc_ | exact .here | apply Take1.there) ?_
        rintro v_ give_ ⟨pa, pc, rfl, rfl⟩ rs_ hrs_
        simp only [List.cons_append, List.nil_append] at hrs_
        subst hrs_
        repeat (first | (apply G.ex (hd := rfl); case h => (first | exact Ex.move rfl | exact Ex.add rfl rfl (by omega) | exact Ex.neI rfl rfl | exact Ex.extract rfl rfl | exact Ex.assign rfl)) | refine G.nil ?_ | refine GC.seq ?_ | refine GC.region ?_ | refine GC.skip ?_ | refine GE.then_normal ?_ | refine GE.block_normal ?_ | refine GC.cond_no rfl (by first | assumption | omega) ?_)
        rw [show (k : Int) + 1 = ((k + 1 : Nat) : Int) by omega]
        refine GE.loop (k + 1, add D m (r1, r2), (pa, pc)) ⟨by simp only; omega, hst⟩ (by simp only; omega) (by simp only [fits]; repeat (first | exact trivial | refine And.intro rfl ?_)) (by repeat first | exact tn_ | apply td_ rfl | apply tc_ | exact .here | apply Take1.there) (by repeat (first | exact Subs.refl | refine Subs.skip ?_))
    · obtain rfl : k = L.length := by omega
      rw [List.take_length] at hs
      have hr : heardF s ack win l = (0, { s with done := D, more := m, edge := max s.edge (ack + win) }) := by rw [hr0, hs]
      rw [hr]
      repeat (first | refine GC.seq ?_ | refine GC.exit ?_ | refine GE.then_normal ?_ | refine GE.then_exit ?_ | refine GE.block_hit ?_)
      refine GC.drawA [] [.blk pb 54 [.pointer (some (badr hb 0))]] (by repeat first | exact tn_ | apply td_ rfl | apply tc_ | exact .here | apply Take1.there) (by kernel_rfl) ?_
      first | (apply GA.take _ (hD := .inr ⟨rfl, by kernel_rfl⟩) (hsub := ⟨_, (by repeat first | exact tn_ | apply td_ rfl | apply tc_ | exact .here | apply Take1.there)⟩) (i := 0) (hi := rfl) (hs := by kernel_rfl) (hfr := by kernel_rfl) (hr := by kernel_rfl) (hQ := np_) (hd := rfl); case hx => (first | exact Ex.loadB rfl rfl))
      first | (apply GA.take _ (hD := .inr ⟨rfl, by kernel_rfl⟩) (hsub := ⟨_, (by repeat first | exact tn_ | apply td_ rfl | apply tc_ | exact .here | apply Take1.there)⟩) (i := 1) (hi := rfl) (hs := by kernel_rfl) (hfr := by kernel_rfl) (hr := by kernel_rfl) (hQ := np_) (hd := rfl); case hx => (first | exact Ex.loadB rfl rfl))
      first | (apply GA.take [] (hD := .inl rfl) (hsub := ⟨_, Takes.nil⟩) (i := 2) (hi := rfl) (hs := by kernel_rfl) (hfr := by kernel_rfl) (hr := by kernel_rfl) (hQ := np_) (hd := rfl); case hx => (first | exact Ex.move rfl))
      first | (apply GA.take [] (hD := .inl rfl) (hsub := ⟨_, Takes.nil⟩) (i := 3) (hi := rfl) (hs := by kernel_rfl) (hfr := by kernel_rfl) (hr := by kernel_rfl) (hQ := np_) (hd := rfl); case hx => (first | exact Ex.move rfl))
      first | (apply GA.take [] (hD := .inl rfl) (hsub := ⟨_, Takes.nil⟩) (i := 4) (hi := rfl) (hs := by kernel_rfl) (hfr := by kernel_rfl) (hr := by kernel_rfl) (hQ := np_) (hd := rfl); case hx => (first | exact Ex.nilCheck rfl))
      first | (apply GA.take [] (hD := .inl rfl) (hsub := ⟨_, Takes.nil⟩) (i := 5) (hi := rfl) (hs := by kernel_rfl) (hfr := by kernel_rfl) (hr := by kernel_rfl) (hQ := np_) (hd := rfl); case hx => (first | exact Ex.fieldB rfl))
      refine GA.one (i := 6) (by kernel_rfl) rfl ?_
      first | refine G.storeB rfl rfl rfl rfl rfl ?_
      try refine G.nil ?_
      refine GA.back (by first | exact .inl (by decide) | exact .inr ⟨_, (by repeat first | exact tn_ | apply td_ rfl | apply tc_ | exact .here | apply Take1.there)⟩) ?_
      first | (apply GA.take [] (hD := .inl rfl) (hsub := ⟨_, Takes.nil⟩) (i := 7) (hi := rfl) (hs := by kernel_rfl) (hfr := by kernel_rfl) (hr := by kernel_rfl) (hQ := np_) (hd := rfl); case hx => (first | exact Ex.nilCheck rfl))
      first | (apply GA.take [] (hD := .inl rfl) (hsub := ⟨_, Takes.nil⟩) (i := 8) (hi := rfl) (hs := by kernel_rfl) (hfr := by kernel_rfl) (hr := by kernel_rfl) (hQ := np_) (hd := rfl); case hx => (first | exact Ex.fieldB rfl))
      refine GA.one (i := 9) (by kernel_rfl) rfl ?_
      first | refine G.storeB rfl rfl rfl rfl rfl ?_
      try refine G.nil ?_
      refine GA.back (by first | exact .inl (by decide) | exact .inr ⟨_, (by repeat first | exact tn_ | apply td_ rfl | apply tc_ | exact .here | apply Take1.there)⟩) ?_
      refine GA.done (by kernel_rfl) ?_
      refine GE.then_normal ?_
      refine GC.seq ?_
      refine GC.drawA [13] [.blk pb 54 [.pointer (some (badr hb 0))], .blk hb 79 [.slice da ({ s with done := D, more := m }).data.length dc, .bool ({ s with done := D, more := m }).closed, .int .i64 ({ s with done := D, more := m }).done, .slice ma ({ s with done := D, more := m }).more.length mc1, .int .i64 ({ s with done := D, more := m }).next, .int .i64 ({ s with done := D, more := m }).again, .int .i64 ({ s with done := D, more := m }).edge], .blk ab 63 [.int .i64 kind, .slice bo bn bc, .int .i64 ack, .int .i64 win, .slice so l.length sc]] (by repeat first | exact tn_ | apply td_ rfl | apply tc_ | exact .here | apply Take1.there) (by kernel_rfl) ?_
      first | (apply GA.take _ (hD := .inr ⟨rfl, by kernel_rfl⟩) (hsub := ⟨_, (by repeat first | exact tn_ | apply td_ rfl | apply tc_ | exact .here | apply Take1.there)⟩) (i := 0) (hi := rfl) (hs := by kernel_rfl) (hfr := by kernel_rfl) (hr := by kernel_rfl) (hQ := np_) (hd := rfl); case hx => (first | exact Ex.loadB rfl rfl))
      first | (apply GA.take _ (hD := .inr ⟨rfl, by kernel_rfl⟩) (hsub := ⟨_, (by repeat first | exact tn_ | apply td_ rfl | apply tc_ | exact .here | apply Take1.there)⟩) (i := 1) (hi := rfl) (hs := by kernel_rfl) (hfr := by kernel_rfl) (hr := by kernel_rfl) (hQ := np_) (hd := rfl); case hx => (first | exact Ex.loadB rfl rfl))
      first | (apply GA.take [] (hD := .inl rfl) (hsub := ⟨_, Takes.nil⟩) (i := 2) (hi := rfl) (hs := by kernel_rfl) (hfr := by kernel_rfl) (hr := by kernel_rfl) (hQ := np_) (hd := rfl); case hx => (first | exact Ex.nilCheck rfl))
      first | (apply GA.take [] (hD := .inl rfl) (hsub := ⟨_, Takes.nil⟩) (i := 3) (hi := rfl) (hs := by kernel_rfl) (hfr := by kernel_rfl) (hr := by kernel_rfl) (hQ := np_) (hd := rfl); case hx => (first | exact Ex.fieldB rfl))
      first | (apply GA.take _ (hD := .inr ⟨rfl, by kernel_rfl⟩) (hsub := ⟨_, (by repeat first | exact tn_ | apply td_ rfl | apply tc_ | exact .here | apply Take1.there)⟩) (i := 4) (hi := rfl) (hs := by kernel_rfl) (hfr := by kernel_rfl) (hr := by kernel_rfl) (hQ := np_) (hd := rfl); case hx => (first | exact Ex.loadB rfl rfl))
      first | (apply GA.take [] (hD := .inl rfl) (hsub := ⟨_, Takes.nil⟩) (i := 5) (hi := rfl) (hs := by kernel_rfl) (hfr := by kernel_rfl) (hr := by kernel_rfl) (hQ := np_) (hd := rfl); case hx => (first | exact Ex.fieldB rfl))
      first | (apply GA.take _ (hD := .inr ⟨rfl, by kernel_rfl⟩) (hsub := ⟨_, (by repeat first | exact tn_ | apply td_ rfl | apply tc_ | exact .here | apply Take1.there)⟩) (i := 6) (hi := rfl) (hs := by kernel_rfl) (hfr := by kernel_rfl) (hr := by kernel_rfl) (hQ := np_) (hd := rfl); case hx => (first | exact Ex.loadB rfl rfl))
      first | (apply GA.take [] (hD := .inl rfl) (hsub := ⟨_, Takes.nil⟩) (i := 7) (hi := rfl) (hs := by kernel_rfl) (hfr := by kernel_rfl) (hr := by kernel_rfl) (hQ := np_) (hd := rfl); case hx => (first | exact Ex.fieldB rfl))
      first | (apply GA.take _ (hD := .inr ⟨rfl, by kernel_rfl⟩) (hsub := ⟨_, (by repeat first | exact tn_ | apply td_ rfl | apply tc_ | exact .here | apply Take1.there)⟩) (i := 8) (hi := rfl) (hs := by kernel_rfl) (hfr := by kernel_rfl) (hr := by kernel_rfl) (hQ := np_) (hd := rfl); case hx => (first | exact Ex.loadB rfl rfl))
      first | (apply GA.take [] (hD := .inl rfl) (hsub := ⟨_, Takes.nil⟩) (i := 9) (hi := rfl) (hs := by kernel_rfl) (hfr := by kernel_rfl) (hr := by kernel_rfl) (hQ := np_) (hd := rfl); case hx => (first | exact Ex.add rfl rfl (by omega)))
      first | (apply GA.take [] (hD := .inl rfl) (hsub := ⟨_, Takes.nil⟩) (i := 10) (hi := rfl) (hs := by kernel_rfl) (hfr := by kernel_rfl) (hr := by kernel_rfl) (hQ := np_) (hd := rfl); case hx => (first | exact Ex.max rfl rfl))
      first | (apply GA.take [] (hD := .inl rfl) (hsub := ⟨_, Takes.nil⟩) (i := 11) (hi := rfl) (hs := by kernel_rfl) (hfr := by kernel_rfl) (hr := by kernel_rfl) (hQ := np_) (hd := rfl); case hx => (first | exact Ex.nilCheck rfl))
      first | (apply GA.take [] (hD := .inl rfl) (hsub := ⟨_, Takes.nil⟩) (i := 12) (hi := rfl) (hs := by kernel_rfl) (hfr := by kernel_rfl) (hr := by kernel_rfl) (hQ := np_) (hd := rfl); case hx => (first | exact Ex.fieldB rfl))
      refine GA.one (i := 13) (by kernel_rfl) rfl ?_
      first | refine G.storeB rfl rfl rfl rfl rfl ?_
      try refine G.nil ?_
      refine GA.back (by first | exact .inl (by decide) | exact .inr ⟨_, (by repeat first | exact tn_ | apply td_ rfl | apply tc_ | exact .here | apply Take1.there)⟩) ?_
      refine GA.done (by kernel_rfl) ?_
      repeat (first | (apply G.ex (hd := rfl); case h => (first | exact Ex.assign rfl)) | refine G.nil ?_ | refine GC.seq ?_ | refine GC.region ?_ | refine GC.ret ?_ | refine GE.then_normal ?_)
      refine GE.ret (by first | exact .inl rfl | exact .inr rfl) (res1 Try.results31 rfl) ⟨ma, mc1, rfl, rfl⟩ (by repeat first | exact tn_ | apply td_ rfl | apply tc_ | exact .here | apply Take1.there) (by repeat (first | exact Subs.refl | refine Subs.skip ?_))
end send
end Go.Proofs.Ytcllddkhnbnigaa
