/-
  CONTRACTS of who sends: Do, New and Play, by the kit.
-/
import Derived.Test.YtcllddkhnbnigaaSendD
namespace Go.Proofs.Ytcllddkhnbnigaa
open Go.RowKit
attribute [local irreducible] Ex G GC GE Gq FPost LPost
set_option linter.unusedVariables false
set_option linter.unusedSimpArgs false
namespace send
open hole
/-- a deed as it lies in memory -/
structure DeM where
  kind : Int
  d : SlD UInt8
  ack : Int
  win : Int
  sk : SlD R
instance : Inhabited DeM := ⟨⟨3, default, 0, 0, default⟩⟩
def eD (m : DeM) : List Value := [.int .i64 m.kind, .slice m.d.ao m.d.n m.d.c, .int .i64 m.ack, .int .i64 m.win, .slice m.sk.ao m.sk.n m.sk.c]
instance : Enc eD 5 := ⟨fun _ => rfl, fun x u hu => by simp [eD] at hu; rcases hu with rfl | rfl | rfl | rfl | rfl <;> rfl⟩
def toDe (m : DeM) : De := if m.kind = 1 then .submit m.d.l else if m.kind = 2 then .heard m.ack m.win m.sk.l else if m.kind = 3 then .poll else if m.kind = 4 then .timeout else .close
structure MOk (m : DeM) : Prop where
  kind : 1 ≤ m.kind ∧ m.kind ≤ 5
  len : m.d.l.length = m.d.n
  skl : m.sk.l.length = m.sk.n
  lb : m.d.n ≤ 1000000
  sb : m.sk.n ≤ 1000000
/-- what a deed came to as it lies in memory -/
structure StM where
  t : St
  xo : Option Addr
  xc : Nat
instance : Inhabited StM := ⟨⟨default, none, 0⟩⟩
def eT (m : StM) : List Value := eSt m.t m.xo m.xc
instance : Enc eT 7 := ⟨fun _ => rfl, fun x u hu => by simp [eT, eSt] at hu; rcases hu with rfl | rfl | rfl | rfl | rfl | rfl | rfl <;> rfl⟩
theorem do_left (s : Se) (d : De) : (doF s d).2.left = (doF s d).1.left := by
  cases d with
  | poll =>
    show (pollF s).2.left = (pollF s).1.left
    unfold pollF
    split
    · rfl
    · split <;> rfl
  | _ => rfl
set_option maxHeartbeats 8000000 in
theorem do_sp (hb : Nat) (s : Se) (hk : SOk s) (m : DeM) (hm : MOk m) (da : Option Addr) (dc : Nat) (mo : Option Addr) (mc : Nat) :
    Spec Try.prog 22 [.pointer (some (badr hb 0)), .agg (eD m).toArray] [.blk hb 79 [.slice da (s).data.length dc, .bool (s).closed, .int .i64 (s).done, .slice mo (s).more.length mc, .int .i64 (s).next, .int .i64 (s).again, .int .i64 (s).edge], .vec 5 1 da (s).data.length dc (flat eB (s).data), .sl mo (s).more.length mc 2 (flat eR (s).more), .sl m.d.ao m.d.n m.d.c 1 (flat eB m.d.l), .sl m.sk.ao m.sk.n m.sk.c 2 (flat eR m.sk.l)] fun v give => ∃ da' dc' mo' mc' xo xc, v = .agg (eT ⟨(doF s (toDe m)).2, xo, xc⟩).toArray ∧ give = [.blk hb 79 [.slice da' ((doF s (toDe m)).1).data.length dc', .bool ((doF s (toDe m)).1).closed, .int .i64 ((doF s (toDe m)).1).done, .slice mo' ((doF s (toDe m)).1).more.length mc', .int .i64 ((doF s (toDe m)).1).next, .int .i64 ((doF s (toDe m)).1).again, .int .i64 ((doF s (toDe m)).1).edge], .vec 5 1 da' ((doF s (toDe m)).1).data.length dc' (flat eB ((doF s (toDe m)).1).data), .sl mo' ((doF s (toDe m)).1).more.length mc' 2 (flat eR ((doF s (toDe m)).1).more), .sl xo (doF s (toDe m)).2.data.length xc 1 (flat eB (doF s (toDe m)).2.data)] := by
  obtain ⟨s1, t, hdo⟩ : ∃ s1 t, doF s (toDe m) = (s1, t) := ⟨_, _, rfl⟩
  have hk1 := hk.step (toDe m)
  have hle := do_left s (toDe m)
  rw [hdo] at hk1 hle ⊢
  simp only at hk1 hle
  obtain ⟨⟨m1, m2⟩, m3, m4, m5, m6⟩ := hm
  obtain ⟨kind, ⟨bo, bn, bc, b⟩, ack, win, ⟨so, sn, sc, l⟩⟩ := m
  simp only at m1 m2 m3 m4 m5 m6
  subst m3 m4
  refine Spec.intro Try.func22 rfl Try.ntmps22 rfl fun w0 rest rs_ hrs_ => ?_
  simp only [List.cons_append, List.nil_append] at hrs_
  subst hrs_
  repeat (first | refine GC.seq ?_ | refine GC.region ?_)
  refine G.box rfl rfl rfl (fun ab => ?_)
  rw [show (Value.agg (eD ⟨kind, ⟨bo, b.length, bc, b⟩, ack, win, ⟨so, l.length, sc, l⟩⟩).toArray).cells.toList = [.int .i64 kind, .slice bo b.length bc, .int .i64 ack, .int .i64 win, .slice so l.length sc] from rfl]
  repeat (first | refine G.storeB rfl rfl rfl rfl rfl ?_ | refine G.storeBA rfl rfl rfl rfl rfl ?_ | (apply G.ex (hd := rfl); case h => (first | exact Ex.move rfl | exact Ex.nilCheck rfl | exact Ex.lenO rfl | exact Ex.indexO rfl rfl (by omega) | exact Ex.eqO rfl rfl | exact Ex.neO rfl rfl | exact Ex.subLo rfl rfl (by omega) | exact Ex.subHi rfl rfl (by omega) | exact Ex.subMid rfl rfl rfl (by omega) | exact Ex.addO rfl rfl (by omega) | exact Ex.indexPE rfl rfl (by first | omega | (simp; done) | (simp; omega)) | exact Ex.indexPB rfl rfl (by first | omega | (simp; done) | (simp; omega)) | exact Ex.loadP rfl (by omega) | exact Ex.loadPW rfl | exact Ex.loadRP rfl (by first | omega | (simp; done) | (simp; omega)) (by omega) | exact Ex.bld0 | exact Ex.bldR | exact Ex.fieldE rfl | exact Ex.fieldB rfl | exact Ex.loadB rfl rfl | exact Ex.add rfl rfl (by omega) | exact Ex.sub rfl rfl (by omega) | exact Ex.lss rfl rfl | exact Ex.leq rfl rfl | exact Ex.gtr rfl rfl | exact Ex.geq rfl rfl | exact Ex.eqBy rfl rfl | exact Ex.neBy rfl rfl | exact Ex.eqI rfl rfl | exact Ex.neI rfl rfl | exact Ex.lenSl rfl | exact Ex.indexN rfl rfl (by first | omega | (simp; done) | (simp; omega)) | exact Ex.loadT0 rfl (by first | omega | (simp; done) | (simp; omega)) rfl | exact Ex.loadT rfl (by first | omega | (simp; done) | (simp; omega)) rfl | exact Ex.extract rfl rfl | exact Ex.field rfl rfl | exact Ex.assign rfl | exact Ex.min rfl rfl | exact Ex.min3 rfl rfl rfl | exact Ex.max rfl rfl | exact Ex.quo rfl rfl (by omega) | exact Ex.quotB rfl rfl (by omega) | exact Ex.rem rfl rfl (by omega) | exact Ex.mul rfl rfl (by omega) | exact Ex.remt rfl rfl (by omega) | exact Ex.notD rfl | exact Ex.notB rfl | exact Ex.eqS rfl rfl | exact Ex.neS rfl rfl | exact Ex.eqB rfl rfl | exact Ex.neB rfl rfl | exact Ex.lenS rfl | exact Ex.indexS rfl rfl (by first | omega | (simp; done) | (simp; omega)) | exact Ex.neg rfl (by omega) | exact Ex.convS rfl | exact Ex.pickT rfl (by first | assumption | omega) rfl | exact Ex.pickF rfl (by first | assumption | omega) rfl | exact Ex.loadBA rfl rfl rfl | exact Ex.loadTA rfl (by first | omega | (simp; done) | (simp; omega)) | exact Ex.build rfl rfl | exact Ex.pickLT rfl rfl | exact Ex.pickLF rfl rfl | exact Ex.eqA rfl rfl rfl | exact Ex.neA rfl rfl rfl | exact Ex.pick rfl rfl rfl | exact Ex.indexI rfl rfl (by omega) | exact Ex.conv64b rfl | exact Ex.conv64 rfl (by omega) | exact Ex.conv8 rfl | exact Ex.conv16 rfl | exact Ex.shr8 rfl rfl | exact Ex.shr16 rfl rfl | exact Ex.shr24 rfl rfl | exact Ex.shl8b rfl rfl | exact Ex.shl8 rfl rfl (by omega) | exact Ex.orBbb rfl rfl | exact Ex.orBb rfl rfl (by omega) | exact Ex.orB rfl rfl (by omega) | exact Ex.and16 rfl rfl (by omega) | exact Ex.eqNil rfl rfl | exact Ex.neNil rfl rfl | exact Ex.mkFunc rfl | exact Ex.capSl rfl | exact Ex.arrPtr rfl (by omega) | exact Ex.loadArI rfl (by assumption) rfl | exact Ex.eqArrI rfl rfl (by assumption) (by assumption) | exact Ex.loadAr rfl rfl rfl rfl | exact Ex.indexArr rfl rfl (by first | omega | (simp; done) | (simp; omega)) | exact Ex.buildArr rfl rfl | exact Ex.indexV rfl rfl rfl rfl (by omega) | exact Ex.shlK rfl rfl (by omega) | exact Ex.orK rfl rfl (by omega) | exact Ex.shrK rfl rfl (by omega) | exact Ex.andS rfl rfl | exact Ex.andS (k := 0) rfl rfl | exact Ex.andK rfl rfl (by omega) | exact Ex.xorB rfl rfl | exact Ex.and rfl rfl | exact Ex.slHi rfl rfl (by omega) | exact Ex.slLo rfl rfl (by omega) | exact Ex.slLH rfl rfl rfl (by omega) | exact Ex.sl3 rfl rfl rfl rfl (by omega) | exact Ex.convBO rfl (by omega) | exact Ex.loadB rfl (by assumption) | exact Ex.eqP0 rfl rfl | exact Ex.neP0 rfl rfl | exact Ex.nePB rfl rfl)) | refine G.g_tt rfl rfl (by first | assumption | omega) ?_ | refine G.g_tf rfl rfl (by first | assumption | omega) rfl ?_ | refine G.g_ft rfl rfl (by first | assumption | omega) rfl ?_ | refine G.g_ff rfl rfl (by first | assumption | omega) ?_ | refine G.g_un rfl rfl rfl ?_ | refine G.yes rfl rfl ?_ | refine G.l_tf rfl rfl rfl ?_ | refine G.l_ft rfl rfl rfl ?_ | refine G.nil ?_ | (apply Gq.ex (hd := rfl); case h => (first | exact Ex.move rfl | exact Ex.nilCheck rfl | exact Ex.lenO rfl | exact Ex.indexO rfl rfl (by omega) | exact Ex.eqO rfl rfl | exact Ex.neO rfl rfl | exact Ex.subLo rfl rfl (by omega) | exact Ex.subHi rfl rfl (by omega) | exact Ex.subMid rfl rfl rfl (by omega) | exact Ex.addO rfl rfl (by omega) | exact Ex.indexPE rfl rfl (by first | omega | (simp; done) | (simp; omega)) | exact Ex.indexPB rfl rfl (by first | omega | (simp; done) | (simp; omega)) | exact Ex.loadP rfl (by omega) | exact Ex.loadPW rfl | exact Ex.loadRP rfl (by first | omega | (simp; done) | (simp; omega)) (by omega) | exact Ex.bld0 | exact Ex.bldR | exact Ex.fieldE rfl | exact Ex.fieldB rfl | exact Ex.loadB rfl rfl | exact Ex.add rfl rfl (by omega) | exact Ex.sub rfl rfl (by omega) | exact Ex.lss rfl rfl | exact Ex.leq rfl rfl | exact Ex.gtr rfl rfl | exact Ex.geq rfl rfl | exact Ex.eqBy rfl rfl | exact Ex.neBy rfl rfl | exact Ex.eqI rfl rfl | exact Ex.neI rfl rfl | exact Ex.lenSl rfl | exact Ex.indexN rfl rfl (by first | omega | (simp; done) | (simp; omega)) | exact Ex.loadT0 rfl (by first | omega | (simp; done) | (simp; omega)) rfl | exact Ex.loadT rfl (by first | omega | (simp; done) | (simp; omega)) rfl | exact Ex.extract rfl rfl | exact Ex.field rfl rfl | exact Ex.assign rfl | exact Ex.min rfl rfl | exact Ex.min3 rfl rfl rfl | exact Ex.max rfl rfl | exact Ex.quo rfl rfl (by omega) | exact Ex.quotB rfl rfl (by omega) | exact Ex.rem rfl rfl (by omega) | exact Ex.mul rfl rfl (by omega) | exact Ex.remt rfl rfl (by omega) | exact Ex.notD rfl | exact Ex.notB rfl | exact Ex.eqS rfl rfl | exact Ex.neS rfl rfl | exact Ex.eqB rfl rfl | exact Ex.neB rfl rfl | exact Ex.lenS rfl | exact Ex.indexS rfl rfl (by first | omega | (simp; done) | (simp; omega)) | exact Ex.neg rfl (by omega) | exact Ex.convS rfl | exact Ex.pickT rfl (by first | assumption | omega) rfl | exact Ex.pickF rfl (by first | assumption | omega) rfl | exact Ex.loadBA rfl rfl rfl | exact Ex.loadTA rfl (by first | omega | (simp; done) | (simp; omega)) | exact Ex.build rfl rfl | exact Ex.pickLT rfl rfl | exact Ex.pickLF rfl rfl | exact Ex.eqA rfl rfl rfl | exact Ex.neA rfl rfl rfl | exact Ex.pick rfl rfl rfl | exact Ex.indexI rfl rfl (by omega) | exact Ex.conv64b rfl | exact Ex.conv64 rfl (by omega) | exact Ex.conv8 rfl | exact Ex.conv16 rfl | exact Ex.shr8 rfl rfl | exact Ex.shr16 rfl rfl | exact Ex.shr24 rfl rfl | exact Ex.shl8b rfl rfl | exact Ex.shl8 rfl rfl (by omega) | exact Ex.orBbb rfl rfl | exact Ex.orBb rfl rfl (by omega) | exact Ex.orB rfl rfl (by omega) | exact Ex.and16 rfl rfl (by omega) | exact Ex.eqNil rfl rfl | exact Ex.neNil rfl rfl | exact Ex.mkFunc rfl | exact Ex.capSl rfl | exact Ex.arrPtr rfl (by omega) | exact Ex.loadArI rfl (by assumption) rfl | exact Ex.eqArrI rfl rfl (by assumption) (by assumption) | exact Ex.loadAr rfl rfl rfl rfl | exact Ex.indexArr rfl rfl (by first | omega | (simp; done) | (simp; omega)) | exact Ex.buildArr rfl rfl | exact Ex.indexV rfl rfl rfl rfl (by omega) | exact Ex.shlK rfl rfl (by omega) | exact Ex.orK rfl rfl (by omega) | exact Ex.shrK rfl rfl (by omega) | exact Ex.andS rfl rfl | exact Ex.andS (k := 0) rfl rfl | exact Ex.andK rfl rfl (by omega) | exact Ex.xorB rfl rfl | exact Ex.and rfl rfl | exact Ex.slHi rfl rfl (by omega) | exact Ex.slLo rfl rfl (by omega) | exact Ex.slLH rfl rfl rfl (by omega) | exact Ex.sl3 rfl rfl rfl rfl (by omega) | exact Ex.convBO rfl (by omega) | exact Ex.loadB rfl (by assumption) | exact Ex.eqP0 rfl rfl | exact Ex.neP0 rfl rfl | exact Ex.nePB rfl rfl)) | refine Gq.g_tt rfl rfl (by first | assumption | omega) ?_ | refine Gq.g_tf rfl rfl (by first | assumption | omega) rfl ?_ | refine Gq.g_ft rfl rfl (by first | assumption | omega) rfl ?_ | refine Gq.g_ff rfl rfl (by first | assumption | omega) ?_ | refine Gq.g_un rfl rfl rfl ?_ | refine Gq.yes rfl rfl ?_ | refine Gq.l_tf rfl rfl rfl ?_ | refine Gq.l_ft rfl rfl rfl ?_ | refine Gq.nil ?_ | refine GC.seq ?_ | refine GC.region ?_ | refine GC.block ?_ | refine GC.skip ?_ | refine GC.ret ?_ | refine GC.exit ?_ | refine GE.then_normal ?_ | refine GE.then_ret ?_ | refine GE.then_exit ?_ | refine GE.block_normal ?_ | refine GE.block_ret ?_ | refine GE.block_hit ?_ | refine GE.block_miss rfl ?_ | refine GC.cond_yes rfl (by first | assumption | omega) ?_ | refine GC.cond_no rfl (by first | assumption | omega) ?_ | refine GC.cond_t rfl ?_ | refine GC.cond_f rfl ?_ | refine GC.scope ?_ | refine GE.ng_normal ?_ | refine GE.ng_ret ?_ | refine GE.ng_exit ?_ | refine GC.label ?_)
  refine G.alloc rfl (fun rb => ?_)
  repeat (first | refine G.nil ?_ | refine GC.seq ?_ | refine GC.region ?_ | refine GE.then_normal ?_)
  refine G.alloc rfl (fun tb => ?_)
  refine G.nil ?_
  refine GE.then_normal ?_
  refine GC.seq ?_
  first | refine G.nilvec 5 1 ?_ | refine GC.nilvec 5 1 ?_
  first | refine G.frz none ?_ | refine GC.frz none ?_ | refine GE.frz none ?_
  refine GC.meet (ι := (Option Addr × Nat) × (Option Addr × Nat) × (Option Addr × Nat)) (fun _ => True) (fun _ => [(0, .pointer (some (badr hb 0))), (4, .pointer (some (badr rb 0))), (5, .pointer (some (badr tb 0)))]) (fun x => [.blk tb 65 [.int .i64 t.code, .int .i64 t.from_, .slice x.2.2.1 t.data.length x.2.2.2, .bool t.fin, .bool t.again, .bool t.idle, .int .i64 0], .blk rb 65 [.int .i64 0, .int .i64 0, .slice none 0 0, .bool false, .bool false, .bool false, .int .i64 0], .blk hb 79 [.slice x.1.1 (s1).data.length x.1.2, .bool (s1).closed, .int .i64 (s1).done, .slice x.2.1.1 (s1).more.length x.2.1.2, .int .i64 (s1).next, .int .i64 (s1).again, .int .i64 (s1).edge], .vec 5 1 x.1.1 (s1).data.length x.1.2 (flat eB (s1).data), .sl x.2.1.1 (s1).more.length x.2.1.2 2 (flat eR (s1).more), .sl x.2.2.1 t.data.length x.2.2.2 1 (flat eB t.data)]) rest ?_ ?_
  · by_cases c1 : kind = 1
    · subst c1
      obtain ⟨rfl, rfl⟩ := Prod.mk.inj (show ((submitF s b).2, plain (submitF s b).1 (submitF s b).2) = (s1, t) from hdo)
      repeat (first | (apply G.ex (hd := rfl); case h => (first | exact Ex.move rfl | exact Ex.fieldB rfl | exact Ex.loadB rfl rfl | exact Ex.eqI rfl rfl | exact Ex.assign rfl)) | refine G.nil ?_ | refine GC.seq ?_ | refine GC.region ?_ | refine GC.block ?_ | refine GE.then_normal ?_ | refine GC.cond_yes rfl (by first | assumption | omega) ?_)
      first | refine G.call (caps := []) (submit_sp hb s hk da dc mo mc bo bc b (by omega)) rfl rfl rfl rfl (by repeat first | exact tn_ | apply td_ rfl | apply tc_ | exact .here | apply Take1.there) ?_ | refine G.callU (caps := []) (submit_sp hb s hk da dc mo mc bo bc b (by omega)) rfl rfl rfl (by repeat first | exact tn_ | apply td_ rfl | apply tc_ | exact .here | apply Take1.there) ?_
      rintro v_ give_ ⟨da1, dc1, rfl, rfl⟩ rs_ hrs_
      simp only [List.cons_append, List.nil_append] at hrs_
      subst hrs_
      repeat (first | refine G.storeB rfl rfl rfl rfl rfl ?_ | (apply G.ex (hd := rfl); case h => (first | exact Ex.fieldB rfl)) | refine G.nil ?_ | refine GE.block_normal ?_)
      rw [show (submitF s b).2.more = s.more by unfold submitF; repeat (first | rfl | split)]
      refine GE.meet ((da1, dc1), (mo, mc), (none, 0)) trivial (by simp only [fits]; repeat (first | exact trivial | refine And.intro rfl ?_)) (by repeat first | exact tn_ | apply td_ rfl | apply tc_ | exact .here | apply Take1.there) (by repeat (first | exact Subs.refl | refine Subs.skip ?_))
    · have c2 : 2 ≤ kind := by omega
      by_cases c5 : kind = 5
      · subst c5
        obtain ⟨rfl, rfl⟩ := Prod.mk.inj (show (({ s with closed := true } : Se), plain (if s.closed = true then 10 else 0) { s with closed := true }) = (s1, t) from hdo)
        obtain ⟨data, closed, done, more, next, again, edge⟩ := s
        cases closed with
        | true =>
          repeat (first | refine G.storeB rfl rfl rfl rfl rfl ?_ | (apply G.ex (hd := rfl); case h => (first | exact Ex.move rfl | exact Ex.nilCheck rfl | exact Ex.fieldB rfl | exact Ex.loadB rfl rfl | exact Ex.eqI rfl rfl | exact Ex.assign rfl)) | refine G.nil ?_ | refine GC.seq ?_ | refine GC.region ?_ | refine GC.block ?_ | refine GE.then_normal ?_ | refine GE.block_normal ?_ | refine GC.cond_yes rfl (by first | assumption | omega) ?_ | refine GC.cond_no rfl (by first | assumption | omega) ?_ | refine GC.cond_t rfl ?_)
          refine GE.meet ((da, dc), (mo, mc), (none, 0)) trivial (by simp only [fits]; repeat (first | exact trivial | refine And.intro rfl ?_)) (by repeat first | exact tn_ | apply td_ rfl | apply tc_ | exact .here | apply Take1.there) (by repeat (first | exact Subs.refl | refine Subs.skip ?_))
        | false =>
          repeat (first | refine G.storeB rfl rfl rfl rfl rfl ?_ | (apply G.ex (hd := rfl); case h => (first | exact Ex.move rfl | exact Ex.nilCheck rfl | exact Ex.fieldB rfl | exact Ex.loadB rfl rfl | exact Ex.eqI rfl rfl | exact Ex.assign rfl)) | refine G.nil ?_ | refine GC.seq ?_ | refine GC.region ?_ | refine GC.block ?_ | refine GC.skip ?_ | refine GE.then_normal ?_ | refine GE.block_normal ?_ | refine GC.cond_yes rfl (by first | assumption | omega) ?_ | refine GC.cond_no rfl (by first | assumption | omega) ?_)
          refine GE.meet ((da, dc), (mo, mc), (none, 0)) trivial (by simp only [fits]; repeat (first | exact trivial | refine And.intro rfl ?_)) (by repeat first | exact tn_ | apply td_ rfl | apply tc_ | exact .here | apply Take1.there) (by repeat (first | exact Subs.refl | refine Subs.skip ?_))
      · by_cases c3 : kind = 2
        · subst c3
          obtain ⟨rfl, rfl⟩ := Prod.mk.inj (show ((heardF s ack win l).2, plain (heardF s ack win l).1 (heardF s ack win l).2) = (s1, t) from hdo)
          have hdat : (heardF s ack win l).2.data = s.data := by
            rcases heard_spec hk ack win l with ⟨h, _⟩ | ⟨_, h⟩
            · rw [h]
            · exact h.data
          repeat (first | (apply G.ex (hd := rfl); case h => (first | exact Ex.move rfl | exact Ex.fieldB rfl | exact Ex.loadB rfl rfl | exact Ex.eqI rfl rfl | exact Ex.assign rfl | exact Ex.loadBA rfl rfl rfl)) | refine G.nil ?_ | refine GC.seq ?_ | refine GC.region ?_ | refine GC.block ?_ | refine GE.then_normal ?_ | refine GC.cond_yes rfl (by first | assumption | omega) ?_ | refine GC.cond_no rfl (by first | assumption | omega) ?_)
          first | refine G.call (caps := []) (heard_sp hb s hk da dc mo mc 2 bo b.length bc ack win so sc l (by omega)) rfl rfl rfl rfl (by repeat first | exact tn_ | apply td_ rfl | apply tc_ | exact .here | apply Take1.there) ?_ | refine G.callU (caps := []) (heard_sp hb s hk da dc mo mc 2 bo b.length bc ack win so sc l (by omega)) rfl rfl rfl (by repeat first | exact tn_ | apply td_ rfl | apply tc_ | exact .here | apply Take1.there) ?_
          rintro v_ give_ ⟨mo1, mc1, rfl, rfl⟩ rs_ hrs_
          simp only [List.cons_append, List.nil_append] at hrs_
          subst hrs_
          rw [show flat eB s.data = flat eB (heardF s ack win l).2.data by rw [hdat], show s.data.length = (heardF s ack win l).2.data.length by rw [hdat]]
          repeat (first | refine G.storeB rfl rfl rfl rfl rfl ?_ | (apply G.ex (hd := rfl); case h => (first | exact Ex.fieldB rfl)) | refine G.nil ?_ | refine GE.block_normal ?_)
          refine GE.meet ((da, dc), (mo1, mc1), (none, 0)) trivial (by simp only [fits]; repeat (first | exact trivial | refine And.intro rfl ?_)) (by repeat first | exact tn_ | apply td_ rfl | apply tc_ | exact .here | apply Take1.there) (by repeat (first | exact Subs.refl | refine Subs.skip ?_))
        · by_cases c4 : kind = 4
          · subst c4
            obtain ⟨rfl, rfl⟩ := Prod.mk.inj (show (timeoutF s, plain 0 (timeoutF s)) = (s1, t) from hdo)
            repeat (first | (apply G.ex (hd := rfl); case h => (first | exact Ex.move rfl | exact Ex.fieldB rfl | exact Ex.loadB rfl rfl | exact Ex.eqI rfl rfl | exact Ex.assign rfl)) | refine G.nil ?_ | refine GC.seq ?_ | refine GC.region ?_ | refine GC.block ?_ | refine GE.then_normal ?_ | refine GC.cond_yes rfl (by first | assumption | omega) ?_ | refine GC.cond_no rfl (by first | assumption | omega) ?_)
            first | refine G.call (caps := []) (timeout_sp hb s hk da dc mo mc) rfl rfl rfl rfl (by repeat first | exact tn_ | apply td_ rfl | apply tc_ | exact .here | apply Take1.there) ?_ | refine G.callU (caps := []) (timeout_sp hb s hk da dc mo mc) rfl rfl rfl (by repeat first | exact tn_ | apply td_ rfl | apply tc_ | exact .here | apply Take1.there) ?_
            rintro v_ give_ ⟨rfl, rfl⟩ rs_ hrs_
            simp only [List.cons_append, List.nil_append] at hrs_
            subst hrs_
            rw [show flat eB s.data = flat eB (timeoutF s).data by unfold timeoutF; split <;> rfl, show s.data.length = (timeoutF s).data.length by unfold timeoutF; split <;> rfl, show s.more.length = (timeoutF s).more.length by unfold timeoutF; split <;> rfl, show flat eR s.more = flat eR (timeoutF s).more by unfold timeoutF; split <;> rfl]
            repeat (first | refine G.nil ?_ | refine GE.block_normal ?_)
            refine GE.meet ((da, dc), (mo, mc), (none, 0)) trivial (by simp only [fits]; repeat (first | exact trivial | refine And.intro rfl ?_)) (by repeat first | exact tn_ | apply td_ rfl | apply tc_ | exact .here | apply Take1.there) (by repeat (first | exact Subs.refl | refine Subs.skip ?_))
          · obtain rfl : kind = 3 := by omega
            have hp : pollF s = (s1, t) := hdo
            have hS := poll_sp hb s hk da dc mo mc
            have hdat : s1.data = s.data := by
              have : (pollF s).1.data = s.data := by
                unfold pollF
                split
                · rfl
                · split <;> rfl
              rw [hp] at this; exact this
            have hmor : s1.more = s.more := by
              have : (pollF s).1.more = s.more := by
                unfold pollF
                split
                · rfl
                · split <;> rfl
              rw [hp] at this; exact this
            rw [hp] at hS
            repeat (first | (apply G.ex (hd := rfl); case h => (first | exact Ex.move rfl | exact Ex.fieldB rfl | exact Ex.loadB rfl rfl | exact Ex.eqI rfl rfl | exact Ex.assign rfl)) | refine G.nil ?_ | refine GC.seq ?_ | refine GC.region ?_ | refine GC.block ?_ | refine GE.then_normal ?_ | refine GC.cond_yes rfl (by first | assumption | omega) ?_ | refine GC.cond_no rfl (by first | assumption | omega) ?_)
            first | refine G.call (caps := []) (hS) rfl rfl rfl rfl (by repeat first | exact tn_ | apply td_ rfl | apply tc_ | exact .here | apply Take1.there) ?_ | refine G.callU (caps := []) (hS) rfl rfl rfl (by repeat first | exact tn_ | apply td_ rfl | apply tc_ | exact .here | apply Take1.there) ?_
            rintro v_ give_ ⟨xo, xc, rfl, rfl⟩ rs_ hrs_
            simp only [List.cons_append, List.nil_append] at hrs_
            subst hrs_
            rw [← hdat, ← hmor]
            repeat (first | refine G.storeBA rfl rfl rfl rfl rfl ?_ | refine G.nil ?_ | refine GE.block_normal ?_)
            refine GE.meet ((da, dc), (mo, mc), (xo, xc)) trivial (by simp only [fits]; repeat (first | exact trivial | refine And.intro rfl ?_)) (by repeat first | exact tn_ | apply td_ rfl | apply tc_ | exact .here | apply Take1.there) (by repeat (first | exact Subs.refl | refine Subs.skip ?_))
  rintro ⟨⟨da1, dc1⟩, ⟨mo1, mc1⟩, ⟨xo, xc⟩⟩ - fr_ rs_ hfr_ hrs_
  simp only [List.cons_append, List.nil_append] at hfr_ hrs_
  subst hfr_ hrs_
  repeat (first | (apply G.ex (hd := rfl); case h => (first | exact Ex.move rfl)) | refine GC.seq ?_ | refine GC.region ?_ | refine GE.then_normal ?_)
  first | refine G.call (caps := []) (left_sp hb s1 hk1 da1 dc1 mo1 mc1) rfl rfl rfl rfl (by repeat first | exact tn_ | apply td_ rfl | apply tc_ | exact .here | apply Take1.there) ?_ | refine G.callU (caps := []) (left_sp hb s1 hk1 da1 dc1 mo1 mc1) rfl rfl rfl (by repeat first | exact tn_ | apply td_ rfl | apply tc_ | exact .here | apply Take1.there) ?_
  rintro v_ give_ ⟨rfl, rfl⟩ rs_ hrs_
  simp only [List.cons_append, List.nil_append] at hrs_
  subst hrs_
  rw [← hle]
  repeat (first | refine G.storeB rfl rfl rfl rfl rfl ?_ | refine G.storeBA rfl rfl rfl rfl rfl ?_ | (apply G.ex (hd := rfl); case h => (first | exact Ex.fieldB rfl | exact Ex.loadBA rfl rfl rfl)) | refine G.nil ?_ | refine GC.seq ?_ | refine GC.region ?_ | refine GC.ret ?_ | refine GE.then_normal ?_)
  refine GE.ret (by first | exact .inl rfl | exact .inr rfl) (resR1 Try.results22 (by first | exact RV.cell rfl (eP_len _) | exact RV.cell rfl rfl | exact RV.cell1 rfl)) ⟨da1, dc1, mo1, mc1, xo, xc, rfl, rfl⟩ (by repeat first | exact tn_ | apply td_ rfl | apply tc_ | exact .here | apply Take1.there) (by repeat (first | exact Subs.refl | refine Subs.skip ?_))
theorem new_sp (window : Int) : Spec Try.prog 19 [.int .i64 window] [] fun v give => ∃ hb, v = .pointer (some (badr hb 0)) ∧ give = [.blk hb 79 [.slice none 0 0, .bool false, .int .i64 0, .slice none 0 0, .int .i64 0, .int .i64 0, .int .i64 window]] := by
  refine Spec.intro Try.func19 rfl Try.ntmps19 rfl fun w0 rest rs_ hrs_ => ?_
  simp only [List.cons_append, List.nil_append] at hrs_
  subst hrs_
  repeat (first | (apply G.ex (hd := rfl); case h => (first | exact Ex.move rfl | exact Ex.assign rfl | exact Ex.build rfl rfl)) | refine G.nil ?_ | refine GC.seq ?_ | refine GC.region ?_ | refine GE.then_normal ?_)
  refine G.box rfl rfl rfl (fun hb => ?_)
  repeat (first | (apply G.ex (hd := rfl); case h => (first | exact Ex.assign rfl)) | refine G.nil ?_ | refine GC.ret ?_ | refine GE.then_normal ?_)
  refine GE.ret (by first | exact .inl rfl | exact .inr rfl) (res1 Try.results19 rfl) ⟨hb, rfl, rfl⟩ (by repeat first | exact tn_ | apply td_ rfl | apply tc_ | exact .here | apply Take1.there) (by repeat (first | exact Subs.refl | refine Subs.skip ?_))
end send
end Go.Proofs.Ytcllddkhnbnigaa
