/-
  CONTRACTS of who sends: Do, New and Play, by the kit.
-/
import Derived.Test.YtkinpmbokkfpbaaSendD
namespace Go.Proofs.Ytkinpmbokkfpbaa
open Go.RowKit
attribute [local irreducible] Ex G GC GE Gq FPost LPost
set_option linter.unusedVariables false
set_option linter.unusedSimpArgs false
namespace send
open hole
/-- a deed as it lies in memory -/
structure DeM where
  kind : Int
  d : SlD UInt8
  ack : Int
  win : Int
  sk : SlD R
instance : Inhabited DeM := ⟨⟨3, default, 0, 0, default⟩⟩
def eD (m : DeM) : List Value := [.int .i64 m.kind, .slice m.d.ao m.d.n m.d.c, .int .i64 m.ack, .int .i64 m.win, .slice m.sk.ao m.sk.n m.sk.c]
instance : Enc eD 5 := ⟨fun _ => rfl, fun x u hu => by simp [eD] at hu; rcases hu with rfl | rfl | rfl | rfl | rfl <;> rfl⟩
def toDe (m : DeM) : De := if m.kind = 1 then .submit m.d.l else if m.kind = 2 then .heard m.ack m.win m.sk.l else if m.kind = 3 then .poll else if m.kind = 4 then .timeout else .close
structure MOk (m : DeM) : Prop where
  kind : 1 ≤ m.kind ∧ m.kind ≤ 5
  len : m.d.l.length = m.d.n
  skl : m.sk.l.length = m.sk.n
  lb : m.d.n ≤ 1000000
  sb : m.sk.n ≤ 1000000
/-- what a deed came to as it lies in memory -/
structure StM where
  t : St
  xo : Option Addr
  xc : Nat
instance : Inhabited StM := ⟨⟨default, none, 0⟩⟩
def eT (m : StM) : List Value := eSt m.t m.xo m.xc
instance : Enc eT 7 := ⟨fun _ => rfl, fun x u hu => by simp [eT, eSt] at hu; rcases hu with rfl | rfl | rfl | rfl | rfl | rfl | rfl <;> rfl⟩
theorem do_left (s : Se) (d : De) : (doF s d).2.left = (doF s d).1.left := by
  cases d with
  | poll =>
    show (pollF s).2.left = (pollF s).1.left
    unfold pollF
    split
    · rfl
    · split <;> rfl
  | _ => rfl
set_option maxHeartbeats 8000000 in
theorem do_sp (hb : Nat) (s : Se) (hk : SOk s) (m : DeM) (hm : MOk m) (da : Option Addr) (dc : Nat) (mo : Option Addr) (mc : Nat) :
    Spec Try.prog 9 [.pointer (some (badr hb 0)), .agg (eD m).toArray] [.blk hb 53 [.slice da (s).data.length dc, .bool (s).closed, .int .i64 (s).done, .slice mo (s).more.length mc, .int .i64 (s).next, .int .i64 (s).again, .int .i64 (s).edge], .vec 5 1 da (s).data.length dc (flat eB (s).data), .sl mo (s).more.length mc 2 (flat eR (s).more), .sl m.d.ao m.d.n m.d.c 1 (flat eB m.d.l), .sl m.sk.ao m.sk.n m.sk.c 2 (flat eR m.sk.l)] fun v give => ∃ da' dc' mo' mc' xo xc, v = .agg (eT ⟨(doF s (toDe m)).2, xo, xc⟩).toArray ∧ give = [.blk hb 53 [.slice da' ((doF s (toDe m)).1).data.length dc', .bool ((doF s (toDe m)).1).closed, .int .i64 ((doF s (toDe m)).1).done, .slice mo' ((doF s (toDe m)).1).more.length mc', .int .i64 ((doF s (toDe m)).1).next, .int .i64 ((doF s (toDe m)).1).again, .int .i64 ((doF s (toDe m)).1).edge], .vec 5 1 da' ((doF s (toDe m)).1).data.length dc' (flat eB ((doF s (toDe m)).1).data), .sl mo' ((doF s (toDe m)).1).more.length mc' 2 (flat eR ((doF s (toDe m)).1).more), .sl xo (doF s (toDe m)).2.data.length xc 1 (flat eB (doF s (toDe m)).2.data)] := by
  obtain ⟨s1, t, hdo⟩ : ∃ s1 t, doF s (toDe m) = (s1, t) := ⟨_, _, rfl⟩
  have hk1 := hk.step (toDe m)
  have hle := do_left s (toDe m)
  rw [hdo] at hk1 hle ⊢
  simp only at hk1 hle
  obtain ⟨⟨m1, m2⟩, m3, m4, m5, m6⟩ := hm
  obtain ⟨kind, ⟨bo, bn, bc, b⟩, ack, win, ⟨so, sn, sc, l⟩⟩ := m
  simp only at m1 m2 m3 m4 m5 m6
  subst m3 m4
  refine Spec.intro Try.func9 rfl Try.ntmps9 rfl fun w0 rest rs_ hrs_ => ?_
  simp only [List.cons_append, List.nil_append] at hrs_
  subst hrs_
  repeat (first | refine GC.seq ?_ | refine GC.region ?_)
  refine G.box rfl rfl rfl (fun ab => ?_)
  rw [show (Value.agg (eD ⟨kind, ⟨bo, b.length, bc, b⟩, ack, win, ⟨so, l.length, sc, l⟩⟩).toArray).cells.toList = [.int .i64 kind, .slice bo b.length bc, .int .i64 ack, .int .i64 win, .slice so l.length sc] from rfl]
  repeat (first | fail)
  refine G.alloc rfl (fun rb => ?_)
  repeat (first | refine G.nil ?_ | refine GC.seq ?_ | refine GC.region ?_ | refine GE.then_normal ?_)
  refine G.alloc rfl (fun tb => ?_)
  refine G.nil ?_
  refine GE.then_normal ?_
  refine GC.seq ?_
  first | refine G.nilvec 5 1 ?_ | refine GC.nilvec 5 1 ?_
  first | refine G.frz none ?_ | refine GC.frz none ?_ | refine GE.frz none ?_
  refine GC.meet (ι := (Option Addr × Nat) × (Option Addr × Nat) × (Option Addr × Nat)) (fun _ => True) (fun _ => [(0, .pointer (some (badr hb 0))), (4, .pointer (some (badr rb 0))), (5, .pointer (some (badr tb 0)))]) (fun x => [.blk tb 37 [.int .i64 t.code, .int .i64 t.from_, .slice x.2.2.1 t.data.length x.2.2.2, .bool t.fin, .bool t.again, .bool t.idle, .int .i64 0], .blk rb 37 [.int .i64 0, .int .i64 0, .slice none 0 0, .bool false, .bool false, .bool false, .int .i64 0], .blk hb 53 [.slice x.1.1 (s1).data.length x.1.2, .bool (s1).closed, .int .i64 (s1).done, .slice x.2.1.1 (s1).more.length x.2.1.2, .int .i64 (s1).next, .int .i64 (s1).again, .int .i64 (s1).edge], .vec 5 1 x.1.1 (s1).data.length x.1.2 (flat eB (s1).data), .sl x.2.1.1 (s1).more.length x.2.1.2 2 (flat eR (s1).more), .sl x.2.2.1 t.data.length x.2.2.2 1 (flat eB t.data)]) rest ?_ ?_
  · by_cases c1 : kind = 1
    · subst c1
      obtain ⟨rfl, rfl⟩ := Prod.mk.inj (show ((submitF s b).2, plain (submitF s b).1 (submitF s b).2) = (s1, t) from hdo)
      repeat (first | (apply G.ex (hd := rfl); case h => (first | exact Ex.move rfl | exact Ex.fieldB rfl | exact Ex.loadB rfl rfl | exact Ex.eqI rfl rfl | exact Ex.assign rfl)) | refine G.nil ?_ | refine GC.seq ?_ | refine GC.region ?_ | refine GC.block ?_ | refine GE.then_normal ?_ | refine GC.cond_yes rfl (by first | assumption | omega) ?_)
      first | refine G.call (caps := []) (submit_sp hb s hk da dc mo mc bo bc b (by omega)) rfl rfl rfl rfl (by repeat (first | exact Takes.nil | apply Takes.dup rfl | apply Takes.cons | exact Take1.here | apply Take1.there)) ?_ | refine G.callU (caps := []) (submit_sp hb s hk da dc mo mc bo bc b (by omega)) rfl rfl rfl (by repeat (first | exact Takes.nil | apply Takes.dup rfl | apply Takes.cons | exact Take1.here | apply Take1.there)) ?_
      rintro v_ give_ ⟨da1, dc1, rfl, rfl⟩ rs_ hrs_
      simp only [List.cons_append, List.nil_append] at hrs_
      subst hrs_
      repeat (first | refine G.storeB rfl rfl rfl rfl rfl ?_ | (apply G.ex (hd := rfl); case h => (first | exact Ex.fieldB rfl)) | refine G.nil ?_ | refine GE.block_normal ?_)
      rw [show (submitF s b).2.more = s.more by unfold submitF; repeat (first | rfl | split)]
      refine GE.meet ((da1, dc1), (mo, mc), (none, 0)) trivial (by simp only [fits]; repeat (first | exact trivial | refine And.intro rfl ?_)) (by repeat (first | exact Takes.nil | apply Takes.dup rfl | apply Takes.cons | exact Take1.here | apply Take1.there)) (by repeat (first | exact Subs.refl | refine Subs.skip ?_))
    · have c2 : 2 ≤ kind := by omega
      by_cases c5 : kind = 5
      · subst c5
        obtain ⟨rfl, rfl⟩ := Prod.mk.inj (show (({ s with closed := true } : Se), plain (if s.closed = true then 10 else 0) { s with closed := true }) = (s1, t) from hdo)
        obtain ⟨data, closed, done, more, next, again, edge⟩ := s
        cases closed with
        | true =>
          repeat (first | refine G.storeB rfl rfl rfl rfl rfl ?_ | (apply G.ex (hd := rfl); case h => (first | exact Ex.move rfl | exact Ex.nilCheck rfl | exact Ex.fieldB rfl | exact Ex.loadB rfl rfl | exact Ex.eqI rfl rfl | exact Ex.assign rfl)) | refine G.nil ?_ | refine GC.seq ?_ | refine GC.region ?_ | refine GC.block ?_ | refine GE.then_normal ?_ | refine GE.block_normal ?_ | refine GC.cond_yes rfl (by first | assumption | omega) ?_ | refine GC.cond_no rfl (by first | assumption | omega) ?_ | refine GC.cond_t rfl ?_)
          refine GE.meet ((da, dc), (mo, mc), (none, 0)) trivial (by simp only [fits]; repeat (first | exact trivial | refine And.intro rfl ?_)) (by repeat (first | exact Takes.nil | apply Takes.dup rfl | apply Takes.cons | exact Take1.here | apply Take1.there)) (by repeat (first | exact Subs.refl | refine Subs.skip ?_))
        | false =>
          repeat (first | refine G.storeB rfl rfl rfl rfl rfl ?_ | (apply G.ex (hd := rfl); case h => (first | exact Ex.move rfl | exact Ex.nilCheck rfl | exact Ex.fieldB rfl | exact Ex.loadB rfl rfl | exact Ex.eqI rfl rfl | exact Ex.assign rfl)) | refine G.nil ?_ | refine GC.seq ?_ | refine GC.region ?_ | refine GC.block ?_ | refine GC.skip ?_ | refine GE.then_normal ?_ | refine GE.block_normal ?_ | refine GC.cond_yes rfl (by first | assumption | omega) ?_ | refine GC.cond_no rfl (by first | assumption | omega) ?_)
          refine GE.meet ((da, dc), (mo, mc), (none, 0)) trivial (by simp only [fits]; repeat (first | exact trivial | refine And.intro rfl ?_)) (by repeat (first | exact Takes.nil | apply Takes.dup rfl | apply Takes.cons | exact Take1.here | apply Take1.there)) (by repeat (first | exact Subs.refl | refine Subs.skip ?_))
      · by_cases c3 : kind = 2
        · subst c3
          obtain ⟨rfl, rfl⟩ := Prod.mk.inj (show ((heardF s ack win l).2, plain (heardF s ack win l).1 (heardF s ack win l).2) = (s1, t) from hdo)
          have hdat : (heardF s ack win l).2.data = s.data := by
            rcases heard_spec hk ack win l with ⟨h, _⟩ | ⟨_, h⟩
            · rw [h]
            · exact h.data
          repeat (first | (apply G.ex (hd := rfl); case h => (first | exact Ex.move rfl | exact Ex.fieldB rfl | exact Ex.loadB rfl rfl | exact Ex.eqI rfl rfl | exact Ex.assign rfl | exact Ex.loadBA rfl rfl rfl)) | refine G.nil ?_ | refine GC.seq ?_ | refine GC.region ?_ | refine GC.block ?_ | refine GE.then_normal ?_ | refine GC.cond_yes rfl (by first | assumption | omega) ?_ | refine GC.cond_no rfl (by first | assumption | omega) ?_)
          first | refine G.call (caps := []) (heard_sp hb s hk da dc mo mc 2 bo b.length bc ack win so sc l (by omega)) rfl rfl rfl rfl (by repeat (first | exact Takes.nil | apply Takes.dup rfl | apply Takes.cons | exact Take1.here | apply Take1.there)) ?_ | refine G.callU (caps := []) (heard_sp hb s hk da dc mo mc 2 bo b.length bc ack win so sc l (by omega)) rfl rfl rfl (by repeat (first | exact Takes.nil | apply Takes.dup rfl | apply Takes.cons | exact Take1.here | apply Take1.there)) ?_
          rintro v_ give_ ⟨mo1, mc1, rfl, rfl⟩ rs_ hrs_
          simp only [List.cons_append, List.nil_append] at hrs_
          subst hrs_
          rw [show flat eB s.data = flat eB (heardF s ack win l).2.data by rw [hdat], show s.data.length = (heardF s ack win l).2.data.length by rw [hdat]]
          repeat (first | refine G.storeB rfl rfl rfl rfl rfl ?_ | (apply G.ex (hd := rfl); case h => (first | exact Ex.fieldB rfl)) | refine G.nil ?_ | refine GE.block_normal ?_)
          refine GE.meet ((da, dc), (mo1, mc1), (none, 0)) trivial (by simp only [fits]; repeat (first | exact trivial | refine And.intro rfl ?_)) (by repeat (first | exact Takes.nil | apply Takes.dup rfl | apply Takes.cons | exact Take1.here | apply Take1.there)) (by repeat (first | exact Subs.refl | refine Subs.skip ?_))
        · by_cases c4 : kind = 4
          · subst c4
            obtain ⟨rfl, rfl⟩ := Prod.mk.inj (show (timeoutF s, plain 0 (timeoutF s)) = (s1, t) from hdo)
            repeat (first | (apply G.ex (hd := rfl); case h => (first | exact Ex.move rfl | exact Ex.fieldB rfl | exact Ex.loadB rfl rfl | exact Ex.eqI rfl rfl | exact Ex.assign rfl)) | refine G.nil ?_ | refine GC.seq ?_ | refine GC.region ?_ | refine GC.block ?_ | refine GE.then_normal ?_ | refine GC.cond_yes rfl (by first | assumption | omega) ?_ | refine GC.cond_no rfl (by first | assumption | omega) ?_)
            first | refine G.call (caps := []) (timeout_sp hb s hk da dc mo mc) rfl rfl rfl rfl (by repeat (first | exact Takes.nil | apply Takes.dup rfl | apply Takes.cons | exact Take1.here | apply Take1.there)) ?_ | refine G.callU (caps := []) (timeout_sp hb s hk da dc mo mc) rfl rfl rfl (by repeat (first | exact Takes.nil | apply Takes.dup rfl | apply Takes.cons | exact Take1.here | apply Take1.there)) ?_
            rintro v_ give_ ⟨rfl, rfl⟩ rs_ hrs_
            simp only [List.cons_append, List.nil_append] at hrs_
            subst hrs_
            rw [show flat eB s.data = flat eB (timeoutF s).data by unfold timeoutF; split <;> rfl, show s.data.length = (timeoutF s).data.length by unfold timeoutF; split <;> rfl, show s.more.length = (timeoutF s).more.length by unfold timeoutF; split <;> rfl, show flat eR s.more = flat eR (timeoutF s).more by unfold timeoutF; split <;> rfl]
            repeat (first | refine G.nil ?_ | refine GE.block_normal ?_)
            refine GE.meet ((da, dc), (mo, mc), (none, 0)) trivial (by simp only [fits]; repeat (first | exact trivial | refine And.intro rfl ?_)) (by repeat (first | exact Takes.nil | apply Takes.dup rfl | apply Takes.cons | exact Take1.here | apply Take1.there)) (by repeat (first | exact Subs.refl | refine Subs.skip ?_))
          · obtain rfl : kind = 3 := by omega
            have hp : pollF s = (s1, t) := hdo
            have hS := poll_sp hb s hk da dc mo mc
            have hdat : s1.data = s.data := by
              have : (pollF s).1.data = s.data := by
                unfold pollF
                split
                · rfl
                · split <;> rfl
              rw [hp] at this; exact this
            have hmor : s1.more = s.more := by
              have : (pollF s).1.more = s.more := by
                unfold pollF
                split
                · rfl
                · split <;> rfl
              rw [hp] at this; exact this
            rw [hp] at hS
            repeat (first | (apply G.ex (hd := rfl); case h => (first | exact Ex.move rfl | exact Ex.fieldB rfl | exact Ex.loadB rfl rfl | exact Ex.eqI rfl rfl | exact Ex.assign rfl)) | refine G.nil ?_ | refine GC.seq ?_ | refine GC.region ?_ | refine GC.block ?_ | refine GE.then_normal ?_ | refine GC.cond_yes rfl (by first | assumption | omega) ?_ | refine GC.cond_no rfl (by first | assumption | omega) ?_)
            first | refine G.call (caps := []) (hS) rfl rfl rfl rfl (by repeat (first | exact Takes.nil | apply Takes.dup rfl | apply Takes.cons | exact Take1.here | apply Take1.there)) ?_ | refine G.callU (caps := []) (hS) rfl rfl rfl (by repeat (first | exact Takes.nil | apply Takes.dup rfl | apply Takes.cons | exact Take1.here | apply Take1.there)) ?_
            rintro v_ give_ ⟨xo, xc, rfl, rfl⟩ rs_ hrs_
            simp only [List.cons_append, List.nil_append] at hrs_
            subst hrs_
            rw [← hdat, ← hmor]
            repeat (first | refine G.storeBA rfl rfl rfl rfl rfl ?_ | refine G.nil ?_ | refine GE.block_normal ?_)
            refine GE.meet ((da, dc), (mo, mc), (xo, xc)) trivial (by simp only [fits]; repeat (first | exact trivial | refine And.intro rfl ?_)) (by repeat (first | exact Takes.nil | apply Takes.dup rfl | apply Takes.cons | exact Take1.here | apply Take1.there)) (by repeat (first | exact Subs.refl | refine Subs.skip ?_))
  rintro ⟨⟨da1, dc1⟩, ⟨mo1, mc1⟩, ⟨xo, xc⟩⟩ - fr_ rs_ hfr_ hrs_
  simp only [List.cons_append, List.nil_append] at hfr_ hrs_
  subst hfr_ hrs_
  repeat (first | (apply G.ex (hd := rfl); case h => (first | exact Ex.move rfl)) | refine GC.seq ?_ | refine GC.region ?_ | refine GE.then_normal ?_)
  first | refine G.call (caps := []) (left_sp hb s1 hk1 da1 dc1 mo1 mc1) rfl rfl rfl rfl (by repeat (first | exact Takes.nil | apply Takes.dup rfl | apply Takes.cons | exact Take1.here | apply Take1.there)) ?_ | refine G.callU (caps := []) (left_sp hb s1 hk1 da1 dc1 mo1 mc1) rfl rfl rfl (by repeat (first | exact Takes.nil | apply Takes.dup rfl | apply Takes.cons | exact Take1.here | apply Take1.there)) ?_
  rintro v_ give_ ⟨rfl, rfl⟩ rs_ hrs_
  simp only [List.cons_append, List.nil_append] at hrs_
  subst hrs_
  rw [← hle]
  repeat (first | refine G.storeB rfl rfl rfl rfl rfl ?_ | refine G.storeBA rfl rfl rfl rfl rfl ?_ | (apply G.ex (hd := rfl); case h => (first | exact Ex.fieldB rfl | exact Ex.loadBA rfl rfl rfl)) | refine G.nil ?_ | refine GC.seq ?_ | refine GC.region ?_ | refine GC.ret ?_ | refine GE.then_normal ?_)
  refine GE.ret (by first | exact .inl rfl | exact .inr rfl) (by first | exact res0 Try.results9 | exact res1 Try.results9 rfl | exact res2 Try.results9 rfl rfl | exact resR1 Try.results9 (by first | exact RV.tmp rfl | exact RV.cell rfl (eP_len _) | exact RV.cell rfl rfl | exact RV.cell1 rfl) | exact resR2 Try.results9 (by first | exact RV.tmp rfl | exact RV.cell rfl (eP_len _) | exact RV.cell rfl rfl | exact RV.cell1 rfl) (by first | exact RV.tmp rfl | exact RV.cell rfl (eP_len _) | exact RV.cell rfl rfl | exact RV.cell1 rfl) | exact resR3 Try.results9 (by first | exact RV.tmp rfl | exact RV.cell rfl (eP_len _) | exact RV.cell rfl rfl | exact RV.cell1 rfl) (by first | exact RV.tmp rfl | exact RV.cell rfl (eP_len _) | exact RV.cell rfl rfl | exact RV.cell1 rfl) (by first | exact RV.tmp rfl | exact RV.cell rfl (eP_len _) | exact RV.cell rfl rfl | exact RV.cell1 rfl)) ⟨da1, dc1, mo1, mc1, xo, xc, rfl, rfl⟩ (by repeat (first | exact Takes.nil | apply Takes.dup rfl | apply Takes.cons | exact Take1.here | apply Take1.there)) (by repeat (first | exact Subs.refl | refine Subs.skip ?_))
theorem new_sp (window : Int) : Spec Try.prog 8 [.int .i64 window] [] fun v give => ∃ hb, v = .pointer (some (badr hb 0)) ∧ give = [.blk hb 53 [.slice none 0 0, .bool false, .int .i64 0, .slice none 0 0, .int .i64 0, .int .i64 0, .int .i64 window]] := by
  refine Spec.intro Try.func8 rfl Try.ntmps8 rfl fun w0 rest rs_ hrs_ => ?_
  simp only [List.cons_append, List.nil_append] at hrs_
  subst hrs_
  repeat (first | (apply G.ex (hd := rfl); case h => (first | exact Ex.move rfl | exact Ex.assign rfl | exact Ex.build rfl rfl)) | refine G.nil ?_ | refine GC.seq ?_ | refine GC.region ?_ | refine GE.then_normal ?_)
  refine G.box rfl rfl rfl (fun hb => ?_)
  repeat (first | (apply G.ex (hd := rfl); case h => (first | exact Ex.assign rfl)) | refine G.nil ?_ | refine GC.ret ?_ | refine GE.then_normal ?_)
  refine GE.ret (by first | exact .inl rfl | exact .inr rfl) (by first | exact res0 Try.results8 | exact res1 Try.results8 rfl | exact res2 Try.results8 rfl rfl | exact resR1 Try.results8 (by first | exact RV.tmp rfl | exact RV.cell rfl (eP_len _) | exact RV.cell rfl rfl | exact RV.cell1 rfl) | exact resR2 Try.results8 (by first | exact RV.tmp rfl | exact RV.cell rfl (eP_len _) | exact RV.cell rfl rfl | exact RV.cell1 rfl) (by first | exact RV.tmp rfl | exact RV.cell rfl (eP_len _) | exact RV.cell rfl rfl | exact RV.cell1 rfl) | exact resR3 Try.results8 (by first | exact RV.tmp rfl | exact RV.cell rfl (eP_len _) | exact RV.cell rfl rfl | exact RV.cell1 rfl) (by first | exact RV.tmp rfl | exact RV.cell rfl (eP_len _) | exact RV.cell rfl rfl | exact RV.cell1 rfl) (by first | exact RV.tmp rfl | exact RV.cell rfl (eP_len _) | exact RV.cell rfl rfl | exact RV.cell1 rfl)) ⟨hb, rfl, rfl⟩ (by repeat (first | exact Takes.nil | apply Takes.dup rfl | apply Takes.cons | exact Take1.here | apply Take1.there)) (by repeat (first | exact Subs.refl | refine Subs.skip ?_))
def xF (m : StM) : SlD UInt8 := ⟨m.xo, m.t.data.length, m.xc, m.t.data⟩
theorem takes_cons (h : Se) (l : List De) (k : Nat) (hk : k < l.length) : runs h (l.take (k + 1)) = runs h (l.take k) ++ [(doF (ends h (l.take k)) (l.getD k default)).2] ∧ ends h (l.take (k + 1)) = (doF (ends h (l.take k)) (l.getD k default)).1 := by
  rw [getD_take l k hk, runs_app, ends_app]; exact ⟨rfl, rfl⟩
set_option maxHeartbeats 4000000 in
theorem play_sp (window : Int) (hr : 0 ≤ window ∧ window ≤ 65535) (r : Res) (ao : Option Addr) (n c : Nat) (L : List DeM) (hl : L.length = n) (hn : n ≤ 300) [hR : RdR r ao n c 5 (flat eD L)] (hL : ∀ m ∈ L, MOk m) :
    Spec Try.prog 6 [.int .i64 window, .slice ao n c] [r, .per (Rd eB 1 (L.map (·.d))), .per (Rd eR 2 (L.map (·.sk)))] fun v give => ∃ (T : List StM) (o : Option Addr) (oc : Nat), T.map (·.t) = runs (newF window) (L.map toDe) ∧ v = .tuple #[.slice o n oc, .int .i64 0] ∧ give = [.vec 37 7 o n oc (flat eT T), .per (Rd eB 1 (T.map xF)), r, .per (Rd eB 1 (L.map (·.d))), .per (Rd eR 2 (L.map (·.sk)))] := by
  have hH : SOk (newF window) := SOk.new hr
  refine Spec.intro Try.func6 rfl Try.ntmps6 rfl fun w0 rest rs_ hrs_ => ?_
  simp only [List.cons_append, List.nil_append] at hrs_
  subst hrs_
  repeat (first | (apply G.ex (hd := rfl); case h => (first | exact Ex.move rfl | exact Ex.lss rfl rfl | exact Ex.gtr rfl rfl | exact Ex.lenSl rfl | exact Ex.assign rfl | exact Ex.pickF rfl (by first | assumption | omega) rfl)) | refine G.g_ff rfl rfl (by first | assumption | omega) ?_ | refine G.nil ?_ | refine GC.seq ?_ | refine GC.region ?_ | refine GC.skip ?_ | refine GE.then_normal ?_ | refine GC.cond_no rfl (by first | assumption | omega) ?_)
  first | refine G.call (caps := []) (new_sp window) rfl rfl rfl rfl (by repeat (first | exact Takes.nil | apply Takes.dup rfl | apply Takes.cons | exact Take1.here | apply Take1.there)) ?_ | refine G.callU (caps := []) (new_sp window) rfl rfl rfl (by repeat (first | exact Takes.nil | apply Takes.dup rfl | apply Takes.cons | exact Take1.here | apply Take1.there)) ?_
  rintro v_ give_ ⟨hb, rfl, rfl⟩ rs_ hrs_
  simp only [List.cons_append, List.nil_append] at hrs_
  subst hrs_
  first | refine G.nilvec 5 1 ?_ | refine GC.nilvec 5 1 ?_
  first | refine G.nilvec 65 2 ?_ | refine GC.nilvec 65 2 ?_
  first | refine G.frz none ?_ | refine GC.frz none ?_ | refine GE.frz none ?_
  refine G.conv (fun w_ H_ => Holds.rdNil eB 1 H_) ?_
  first | refine G.nilvec 37 7 ?_ | refine GC.nilvec 37 7 ?_
  have hr1 : ¬ window < 0 := by omega
  repeat (first | (apply G.ex (hd := rfl); case h => (first | exact Ex.move rfl | exact Ex.lenSl rfl | exact Ex.assign rfl)) | refine G.nil ?_ | refine GC.seq ?_ | refine GC.region ?_ | refine GC.block ?_ | refine GE.then_normal ?_)
  have hLl : (L.map toDe).length = n := by rw [List.length_map]; exact hl
  refine GC.loop (ι := Nat × List StM × (Option Addr × Nat) × (Option Addr × Nat) × (Option Addr × Nat)) (fun x => x.1 ≤ n ∧ x.2.1.map (·.t) = runs (newF window) ((L.map toDe).take x.1) ∧ x.2.1.length = x.1) (fun x => n - x.1) (fun x => [(6, .pointer (some (badr hb 0))), (7, .slice x.2.2.2.2.1 x.1 x.2.2.2.2.2), (21, .slice ao n c), (22, .int .i64 (n : Int)), (23, .int .i64 (x.1 : Int))]) (fun x => [.blk hb 53 [.slice x.2.2.1.1 (ends (newF window) ((L.map toDe).take x.1)).data.length x.2.2.1.2, .bool (ends (newF window) ((L.map toDe).take x.1)).closed, .int .i64 (ends (newF window) ((L.map toDe).take x.1)).done, .slice x.2.2.2.1.1 (ends (newF window) ((L.map toDe).take x.1)).more.length x.2.2.2.1.2, .int .i64 (ends (newF window) ((L.map toDe).take x.1)).next, .int .i64 (ends (newF window) ((L.map toDe).take x.1)).again, .int .i64 (ends (newF window) ((L.map toDe).take x.1)).edge], .vec 5 1 x.2.2.1.1 (ends (newF window) ((L.map toDe).take x.1)).data.length x.2.2.1.2 (flat eB (ends (newF window) ((L.map toDe).take x.1)).data), .sl x.2.2.2.1.1 (ends (newF window) ((L.map toDe).take x.1)).more.length x.2.2.2.1.2 2 (flat eR (ends (newF window) ((L.map toDe).take x.1)).more), .vec 37 7 x.2.2.2.2.1 x.1 x.2.2.2.2.2 (flat eT x.2.1), .per (Rd eB 1 (x.2.1.map xF)), r, .per (Rd eB 1 (L.map (·.d))), .per (Rd eR 2 (L.map (·.sk)))]) (0, [], (none, 0), (none, 0), (none, 0)) ⟨Nat.zero_le _, rfl, rfl⟩ (by simp only [fits]; repeat (first | exact trivial | refine And.intro rfl ?_)) (by repeat (first | exact Takes.nil | apply Takes.dup rfl | apply Takes.cons | exact Take1.here | apply Take1.there)) ?_
  rintro ⟨k, T, ⟨da, dc⟩, ⟨mo, mc⟩, ⟨o, oc⟩⟩ ⟨hk, hT, hTl⟩ fr_ rs_ hfr_ hrs_
  simp only [List.cons_append, List.nil_append] at hfr_ hrs_
  subst hfr_ hrs_
  simp only at hk hT hTl
  repeat (first | (apply G.ex (hd := rfl); case h => (first | exact Ex.lss rfl rfl)) | refine G.nil ?_ | refine GC.seq ?_ | refine GC.region ?_ | refine GE.then_normal ?_)
  refine GC.cond_dec rfl (fun hlt => ?_) (fun hlt => ?_)
  · have hlt : k < n := by omega
    have hdk : (L.map (·.d)).getD k default = (L.getD k default).d := by
      rw [List.getD_eq_getElem?_getD, List.getElem?_map, List.getD_eq_getElem?_getD, List.getElem?_eq_getElem (show k < L.length by omega)]; rfl
    have hsk : (L.map (·.sk)).getD k default = (L.getD k default).sk := by
      rw [List.getD_eq_getElem?_getD, List.getElem?_map, List.getD_eq_getElem?_getD, List.getElem?_eq_getElem (show k < L.length by omega)]; rfl
    have hak : (L.map toDe).getD k default = toDe (L.getD k default) := by
      rw [List.getD_eq_getElem?_getD, List.getElem?_map, List.getD_eq_getElem?_getD, List.getElem?_eq_getElem (show k < L.length by omega)]; rfl
    have hmk := hL (L.getD k default) (getD_mem' L k (by omega))
    obtain ⟨hruns, hends⟩ := takes_cons (newF window) (L.map toDe) k (by omega)
    have hKk := SOk.ends (l := (L.map toDe).take k) hH
    rw [hak] at hruns hends
    refine GC.conv (fun w_ H_ => H_.rdAt (l := L.map (·.d)) (enc := eB) (s := 1) (by simp) k (by rw [List.length_map]; omega)) ?_
    refine GC.conv (fun w_ H_ => H_.rdAt (l := L.map (·.sk)) (enc := eR) (s := 2) (by simp) k (by rw [List.length_map]; omega)) ?_
    rw [hdk, hsk]
    repeat (first | (apply G.ex (hd := rfl); case h => (first | exact Ex.indexN rfl rfl (by first | omega | (simp; done) | (simp; omega)) | exact Ex.loadTA rfl (by first | omega | (simp; done) | (simp; omega)))) | refine GC.seq ?_ | refine GC.region ?_ | refine GC.block ?_ | refine GC.skip ?_ | refine GE.then_normal ?_)
    refine G.alloc rfl (fun ab => ?_)
    repeat (first | refine G.storeBA rfl rfl rfl rfl rfl ?_ | (apply G.ex (hd := rfl); case h => (first | exact Ex.move rfl | exact Ex.loadBA rfl rfl rfl)) | refine G.nil ?_ | refine GC.region ?_ | refine GE.then_normal ?_)
    first | refine G.call (caps := []) (do_sp hb (ends (newF window) ((L.map toDe).take k)) hKk (L.getD k default) hmk da dc mo mc) rfl rfl rfl rfl (by repeat (first | exact Takes.nil | apply Takes.dup rfl | apply Takes.cons | exact Take1.here | apply Take1.there)) ?_ | refine G.callU (caps := []) (do_sp hb (ends (newF window) ((L.map toDe).take k)) hKk (L.getD k default) hmk da dc mo mc) rfl rfl rfl (by repeat (first | exact Takes.nil | apply Takes.dup rfl | apply Takes.cons | exact Take1.here | apply Take1.there)) ?_
    rintro v_ give_ ⟨da2, dc2, mo2, mc2, xo, xc, rfl, rfl⟩ rs_ hrs_
    simp only [List.cons_append, List.nil_append] at hrs_
    subst hrs_
    rw [← hends]
    generalize (doF (ends (newF window) ((L.map toDe).take k)) (toDe (L.getD k default))).2 = tt at *
    have hcat : flat eT T ++ flat eT [(⟨tt, xo, xc⟩ : StM)] = flat eT (T ++ [⟨tt, xo, xc⟩]) := (flat_append ..).symm
    refine G.lit (cells := flat eT [(⟨tt, xo, xc⟩ : StM)]) rfl (by rfl) (by rfl) (by rfl) (by rfl) (by rfl) (by rfl) rfl (fun q => ?_)
    refine G.app rfl rfl (by rfl) (by omega) rfl (hcat) (fun o2 oc2 rs_ hrs_ => ?_)
    try simp only at hrs_
    subst hrs_
    refine G.conv (fun w_ H_ => Holds.rdSnoc (x := ⟨xo, tt.data.length, xc, tt.data⟩) (H_.take (need := [.sl xo tt.data.length xc 1 (flat eB tt.data), .per (Rd eB 1 (T.map xF))]) (by repeat (first | exact Takes.nil | apply Takes.dup rfl | apply Takes.cons | exact Take1.here | apply Take1.there)))) ?_
    try simp only [List.append_eq, List.nil_append, List.cons_append]
    rw [show T.map xF ++ [⟨xo, tt.data.length, xc, tt.data⟩] = (T ++ [(⟨tt, xo, xc⟩ : StM)]).map xF by rw [List.map_append]; rfl]
    repeat (first | (apply G.ex (hd := rfl); case h => (first | exact Ex.move rfl | exact Ex.add rfl rfl (by omega) | exact Ex.assign rfl)) | refine G.nil ?_ | refine GC.region ?_ | refine GE.then_normal ?_ | refine GE.block_normal ?_)
    rw [show (k : Int) + 1 = ((k + 1 : Nat) : Int) by omega]
    refine GE.loop (k + 1, T ++ [⟨tt, xo, xc⟩], (da2, dc2), (mo2, mc2), (o2, oc2)) ⟨by simp only; omega, by simp only; rw [List.map_append, hT, hruns]; rfl, by simp only [List.length_append, hTl]; rfl⟩ (by simp only; omega) (by simp only [fits]; repeat (first | exact trivial | refine And.intro rfl ?_)) (by repeat (first | exact Takes.nil | apply Takes.dup rfl | apply Takes.cons | exact Take1.here | apply Take1.there)) (by repeat (first | exact Subs.refl | refine Subs.skip ?_))
  · obtain rfl : k = n := by omega
    rw [List.take_of_length_le (by omega)] at hT
    repeat (first | (apply G.ex (hd := rfl); case h => (first | exact Ex.move rfl | exact Ex.assign rfl)) | refine G.nil ?_ | refine GC.seq ?_ | refine GC.region ?_ | refine GC.ret ?_ | refine GC.exit ?_ | refine GE.then_normal ?_ | refine GE.then_exit ?_ | refine GE.block_hit ?_)
    refine GE.ret (by first | exact .inl rfl | exact .inr rfl) (by first | exact res0 Try.results6 | exact res1 Try.results6 rfl | exact res2 Try.results6 rfl rfl | exact resR1 Try.results6 (by first | exact RV.tmp rfl | exact RV.cell rfl (eP_len _) | exact RV.cell rfl rfl | exact RV.cell1 rfl) | exact resR2 Try.results6 (by first | exact RV.tmp rfl | exact RV.cell rfl (eP_len _) | exact RV.cell rfl rfl | exact RV.cell1 rfl) (by first | exact RV.tmp rfl | exact RV.cell rfl (eP_len _) | exact RV.cell rfl rfl | exact RV.cell1 rfl) | exact resR3 Try.results6 (by first | exact RV.tmp rfl | exact RV.cell rfl (eP_len _) | exact RV.cell rfl rfl | exact RV.cell1 rfl) (by first | exact RV.tmp rfl | exact RV.cell rfl (eP_len _) | exact RV.cell rfl rfl | exact RV.cell1 rfl) (by first | exact RV.tmp rfl | exact RV.cell rfl (eP_len _) | exact RV.cell rfl rfl | exact RV.cell1 rfl)) ⟨T, o, oc, hT, rfl, rfl⟩ (by repeat (first | exact Takes.nil | apply Takes.dup rfl | apply Takes.cons | exact Take1.here | apply Take1.there)) (by repeat (first | exact Subs.refl | refine Subs.skip ?_))
end send
end Go.Proofs.Ytkinpmbokkfpbaa
