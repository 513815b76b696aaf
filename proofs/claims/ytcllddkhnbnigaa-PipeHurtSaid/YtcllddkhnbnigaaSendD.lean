/-
  CONTRACT of who sends: poll, by the kit.
-/
import Derived.Test.YtcllddkhnbnigaaSendC
import Derived.Test.YtcllddkhnbnigaaBack
namespace Go.Proofs.Ytcllddkhnbnigaa
open Go.RowKit
attribute [local irreducible] Ex G GC GE Gq FPost LPost
set_option linter.unusedVariables false
set_option linter.unusedSimpArgs false
namespace send
open hole
theorem upto_drop (a : Int) (l : List R) (to : Int) (k : Nat) (h : k < l.length) : upto a (l.drop k) to = if a < (l.getD k default).1 then (l.getD k default).1 else upto a (l.drop (k + 1)) to := by
  rw [List.drop_eq_getElem_cons h, List.getD_eq_getElem?_getD, List.getElem?_eq_getElem h]; rfl
theorem piece_len {s : Se} {a to : Int} (h0 : 0 ≤ a) (h1 : a < to) (h2 : to ≤ s.end_) : a + ((pieceF s a to).length : Int) = stop s a to := by
  have h := aft_bd h0 h1 h2
  unfold pieceF
  rw [List.length_take, List.length_drop]
  omega
theorem aft_eq {s : Se} {a to : Int} (h0 : 0 ≤ a) (h1 : a < to) (h2 : to ≤ s.end_) : (if finF s a to = true then a + ((pieceF s a to).length : Int) + 1 else a + ((pieceF s a to).length : Int)) = aftF s a to := by
  rw [piece_len h0 h1 h2]; rfl
set_option maxHeartbeats 8000000 in
theorem poll_sp (hb : Nat) (s : Se) (hk : SOk s) (da : Option Addr) (dc : Nat) (mo : Option Addr) (mc : Nat) :
    Spec Try.prog 33 [.pointer (some (badr hb 0))] [.blk hb 79 [.slice da (s).data.length dc, .bool (s).closed, .int .i64 (s).done, .slice mo (s).more.length mc, .int .i64 (s).next, .int .i64 (s).again, .int .i64 (s).edge], .vec 5 1 da s.data.length dc (flat eB s.data), .sl mo s.more.length mc 2 (flat eR s.more)] fun v give => ∃ xo xc, v = .agg (eSt { (pollF s).2 with left := 0 } xo xc).toArray ∧ give = [.blk hb 79 [.slice da ((pollF s).1).data.length dc, .bool ((pollF s).1).closed, .int .i64 ((pollF s).1).done, .slice mo ((pollF s).1).more.length mc, .int .i64 ((pollF s).1).next, .int .i64 ((pollF s).1).again, .int .i64 ((pollF s).1).edge], .vec 5 1 da s.data.length dc (flat eB s.data), .sl mo s.more.length mc 2 (flat eR s.more), .sl xo (pollF s).2.data.length xc 1 (flat eB (pollF s).2.data)] := by
  have k3 := hk.ne
  have k4 := hk.end1
  have k5 := hk.e0
  have k6 := hk.e1
  have k7 := hk.may.len
  have k8 := hk.a0
  have k9 := hk.a1
  have k0 := hk.may.d0
  have kl := hk.len
  have kle := SOk.len_end (s := s)
  obtain ⟨q1, q2, q3⟩ := hk.at1
  refine Spec.introM Try.func33 rfl Try.ntmps33 rfl fun w0 rest rs_ hrs_ => ?_
  simp only [List.cons_append, List.nil_append] at hrs_
  subst hrs_
  repeat (first | refine GC.seq ?_ | refine GC.region ?_)
  refine G.alloc rfl (fun rb => ?_)
  repeat ((fail_if_success (refine GC.draw (id := 1) (by kernel_rfl) (by kernel_rfl) ?_)); first | refine G.nil ?_ | refine GC.seq ?_ | refine GE.then_normal ?_)
  refine GC.meet (ι := Nat) (fun _ => True) (fun ab => [(0, .pointer (some (badr hb 0))), (2, .pointer (some (badr rb 0))), (3, .pointer (some (badr ab 0)))]) (fun ab => [.blk ab 3 [.int .i64 s.at_], .blk rb 65 [.int .i64 0, .int .i64 0, .slice none 0 0, .bool false, .bool false, .bool false, .int .i64 0], .blk hb 79 [.slice da (s).data.length dc, .bool (s).closed, .int .i64 (s).done, .slice mo (s).more.length mc, .int .i64 (s).next, .int .i64 (s).again, .int .i64 (s).edge], .vec 5 1 da s.data.length dc (flat eB s.data), .sl mo s.more.length mc 2 (flat eR s.more)]) rest ?_ ?_
  · refine GC.np ?_
    refine GC.drawA [] [.blk hb 79 [.slice da (s).data.length dc, .bool (s).closed, .int .i64 (s).done, .slice mo (s).more.length mc, .int .i64 (s).next, .int .i64 (s).again, .int .i64 (s).edge]] (by repeat first | exact tn_ | apply td_ rfl | apply tc_ | exact .here | apply Take1.there) (by kernel_rfl) ?_
    first | (apply GA.take [] (hD := .inl rfl) (hsub := ⟨_, Takes.nil⟩) (i := 0) (hi := rfl) (hs := by kernel_rfl) (hfr := by kernel_rfl) (hr := by kernel_rfl) (hQ := np_) (hd := rfl); case hx => (first | exact Ex.move rfl))
    first | (apply GA.take [] (hD := .inl rfl) (hsub := ⟨_, Takes.nil⟩) (i := 1) (hi := rfl) (hs := by kernel_rfl) (hfr := by kernel_rfl) (hr := by kernel_rfl) (hQ := np_) (hd := rfl); case hx => (first | exact Ex.move rfl))
    first | (apply GA.take [] (hD := .inl rfl) (hsub := ⟨_, Takes.nil⟩) (i := 2) (hi := rfl) (hs := by kernel_rfl) (hfr := by kernel_rfl) (hr := by kernel_rfl) (hQ := np_) (hd := rfl); case hx => (first | exact Ex.nilCheck rfl))
    first | (apply GA.take [] (hD := .inl rfl) (hsub := ⟨_, Takes.nil⟩) (i := 3) (hi := rfl) (hs := by kernel_rfl) (hfr := by kernel_rfl) (hr := by kernel_rfl) (hQ := np_) (hd := rfl); case hx => (first | exact Ex.fieldB rfl))
    first | (apply GA.take _ (hD := .inr ⟨rfl, by kernel_rfl⟩) (hsub := ⟨_, (by repeat first | exact tn_ | apply td_ rfl | apply tc_ | exact .here | apply Take1.there)⟩) (i := 4) (hi := rfl) (hs := by kernel_rfl) (hfr := by kernel_rfl) (hr := by kernel_rfl) (hQ := np_) (hd := rfl); case hx => (first | exact Ex.loadB rfl rfl))
    first | (apply GA.take [] (hD := .inl rfl) (hsub := ⟨_, Takes.nil⟩) (i := 5) (hi := rfl) (hs := by kernel_rfl) (hfr := by kernel_rfl) (hr := by kernel_rfl) (hQ := np_) (hd := rfl); case hx => (first | exact Ex.move rfl))
    first | (apply GA.take [] (hD := .inl rfl) (hsub := ⟨_, Takes.nil⟩) (i := 6) (hi := rfl) (hs := by kernel_rfl) (hfr := by kernel_rfl) (hr := by kernel_rfl) (hQ := np_) (hd := rfl); case hx => (first | exact Ex.nilCheck rfl))
    first | (apply GA.take [] (hD := .inl rfl) (hsub := ⟨_, Takes.nil⟩) (i := 7) (hi := rfl) (hs := by kernel_rfl) (hfr := by kernel_rfl) (hr := by kernel_rfl) (hQ := np_) (hd := rfl); case hx => (first | exact Ex.fieldB rfl))
    first | (apply GA.take _ (hD := .inr ⟨rfl, by kernel_rfl⟩) (hsub := ⟨_, (by repeat first | exact tn_ | apply td_ rfl | apply tc_ | exact .here | apply Take1.there)⟩) (i := 8) (hi := rfl) (hs := by kernel_rfl) (hfr := by kernel_rfl) (hr := by kernel_rfl) (hQ := np_) (hd := rfl); case hx => (first | exact Ex.loadB rfl rfl))
    refine GA.two (i := 9) (j := 10) (by kernel_rfl) rfl rfl ?_ ?_
    · first | refine G.call (caps := []) (first_sp hb s hk s.again s.next da dc mo mc) rfl rfl rfl rfl (by repeat first | exact tn_ | apply td_ rfl | apply tc_ | exact .here | apply Take1.there) ?_ | refine G.callU (caps := []) (first_sp hb s hk s.again s.next da dc mo mc) rfl rfl rfl (by repeat first | exact tn_ | apply td_ rfl | apply tc_ | exact .here | apply Take1.there) ?_
      rintro v_ give_ ⟨rfl, rfl⟩ rs_ hrs_
      simp only [List.cons_append, List.nil_append] at hrs_
      subst hrs_
      try refine G.nil ?_
      refine GA.back (by first | exact .inl (by decide) | exact .inr ⟨_, (by repeat first | exact tn_ | apply td_ rfl | apply tc_ | exact .here | apply Take1.there)⟩) ?_
      refine GA.one (i := 10) (by kernel_rfl) rfl ?_
      refine G.alloc rfl (fun ab => ?_)
      try refine G.nil ?_
      refine GA.back (by first | exact .inl (by decide) | exact .inr ⟨_, (by repeat first | exact tn_ | apply td_ rfl | apply tc_ | exact .here | apply Take1.there)⟩) ?_
      refine GA.one (i := 11) (by kernel_rfl) rfl ?_
      first | refine G.storeB rfl rfl rfl rfl rfl ?_
      try refine G.nil ?_
      refine GA.back (by first | exact .inl (by decide) | exact .inr ⟨_, (by repeat first | exact tn_ | apply td_ rfl | apply tc_ | exact .here | apply Take1.there)⟩) ?_
      refine GA.done (by kernel_rfl) ?_
      refine GE.np ?_
      refine GE.meet ab trivial (by simp only [fits]; repeat (first | exact trivial | refine And.intro rfl ?_)) (by repeat first | exact tn_ | apply td_ rfl | apply tc_ | exact .here | apply Take1.there) (by repeat (first | exact Subs.refl | refine Subs.skip ?_))
    · refine G.alloc rfl (fun ab => ?_)
      try refine G.nil ?_
      refine GA.back (by first | exact .inl (by decide) | exact .inr ⟨_, (by repeat first | exact tn_ | apply td_ rfl | apply tc_ | exact .here | apply Take1.there)⟩) ?_
      refine GA.one (i := 9) (by kernel_rfl) rfl ?_
      first | refine G.call (caps := []) (first_sp hb s hk s.again s.next da dc mo mc) rfl rfl rfl rfl (by repeat first | exact tn_ | apply td_ rfl | apply tc_ | exact .here | apply Take1.there) ?_ | refine G.callU (caps := []) (first_sp hb s hk s.again s.next da dc mo mc) rfl rfl rfl (by repeat first | exact tn_ | apply td_ rfl | apply tc_ | exact .here | apply Take1.there) ?_
      rintro v_ give_ ⟨rfl, rfl⟩ rs_ hrs_
      simp only [List.cons_append, List.nil_append] at hrs_
      subst hrs_
      try refine G.nil ?_
      refine GA.back (by first | exact .inl (by decide) | exact .inr ⟨_, (by repeat first | exact tn_ | apply td_ rfl | apply tc_ | exact .here | apply Take1.there)⟩) ?_
      refine GA.one (i := 11) (by kernel_rfl) rfl ?_
      first | refine G.storeB rfl rfl rfl rfl rfl ?_
      try refine G.nil ?_
      refine GA.back (by first | exact .inl (by decide) | exact .inr ⟨_, (by repeat first | exact tn_ | apply td_ rfl | apply tc_ | exact .here | apply Take1.there)⟩) ?_
      refine GA.done (by kernel_rfl) ?_
      refine GE.np ?_
      refine GE.meet ab trivial (by simp only [fits]; repeat (first | exact trivial | refine And.intro rfl ?_)) (by repeat first | exact tn_ | apply td_ rfl | apply tc_ | exact .here | apply Take1.there) (by repeat (first | exact Subs.refl | refine Subs.skip ?_))
  rintro ab - fr_ rs_ hfr_ hrs_
  simp only [List.cons_append, List.nil_append] at hfr_ hrs_
  subst hfr_ hrs_
  by_cases hlt : s.at_ < s.next
  · have hP : pollF s = ({ s with again := aftF s s.at_ s.to1 }, ⟨0, s.at_, pieceF s s.at_ s.to1, finF s s.at_ s.to1, true, false, s.left⟩) := by unfold pollF; rw [if_pos hlt]
    rw [hP]
    obtain ⟨t1, t2⟩ := hk.toA hlt
    obtain ⟨b1, b2, b3, b4, b5⟩ := aft_bd (s := s) (a := s.at_) (to := s.to1) (by omega) t1 (by omega)
    have hln := piece_len (s := s) (a := s.at_) (to := s.to1) (by omega) t1 (by omega)
    have hae := aft_eq (s := s) (a := s.at_) (to := s.to1) (by omega) t1 (by omega)
    obtain ⟨A, hA⟩ : ∃ A : Nat, s.at_ = (A : Int) := ⟨s.at_.toNat, by omega⟩
    obtain ⟨T, hT⟩ : ∃ T : Nat, s.to1 = (T : Int) := ⟨s.to1.toNat, by omega⟩
    repeat (first | (apply G.ex (hd := rfl); case h => (first | exact Ex.move rfl | exact Ex.nilCheck rfl | exact Ex.fieldB rfl | exact Ex.loadB rfl rfl)) | (apply Gq.ex (hd := rfl); case h => (first | exact Ex.move rfl | exact Ex.nilCheck rfl | exact Ex.fieldB rfl | exact Ex.loadB rfl rfl | exact Ex.lss rfl rfl)) | refine Gq.nil ?_ | refine GC.seq ?_ | refine GC.region ?_ | refine GC.draw (by kernel_rfl) (by kernel_rfl) ?_ | refine GE.then_normal ?_ | refine GC.cond_yes rfl (by first | assumption | omega) ?_)
    refine G.alloc rfl (fun tb => ?_)
    repeat (first | refine G.storeB rfl rfl rfl rfl rfl ?_ | (apply G.ex (hd := rfl); case h => (first | exact Ex.move rfl | exact Ex.nilCheck rfl | exact Ex.fieldB rfl | exact Ex.loadB rfl rfl)) | refine G.nil ?_ | refine GC.seq ?_ | refine GC.region ?_ | refine GE.then_normal ?_)
    first | refine G.call (caps := []) (backward_sp mo s.more.length mc) rfl rfl rfl rfl (by repeat first | exact tn_ | apply td_ rfl | apply tc_ | exact .here | apply Take1.there) ?_ | refine G.callU (caps := []) (backward_sp mo s.more.length mc) rfl rfl rfl (by repeat first | exact tn_ | apply td_ rfl | apply tc_ | exact .here | apply Take1.there) ?_
    rintro v_ give_ ⟨b, rfl, rfl⟩ rs_ hrs_
    simp only [List.cons_append, List.nil_append] at hrs_
    subst hrs_
    repeat (first | refine G.nil ?_ | refine GC.block ?_ | refine GE.then_normal ?_)
    refine GC.rangeFunc (caps := [.pointer (some (badr b 0))]) (need := .blk b 61 [.slice mo s.more.length mc] :: .sl mo s.more.length mc 2 (flat eR s.more) :: [.blk ab 3 [.int .i64 s.at_], .blk tb 3 [.int .i64 s.next]]) (post := fun _ g => g = .blk b 61 [.slice mo s.more.length mc] :: .sl mo s.more.length mc 2 (flat eR s.more) :: [.blk ab 3 [.int .i64 s.at_], .blk tb 3 [.int .i64 s.to1]]) rfl (fun yl rec_ hst hpn hps hass hbody hfr => ?_) (by repeat first | exact tn_ | apply td_ rfl | apply tc_ | exact .here | apply Take1.there) ?_
    · refine (back1_sp (.sl mo s.more.length mc 2 (flat eR s.more)) mo s.more.length mc s.more rfl (by omega) b yl rec_ (κ := Int) (fun k i => i = upto s.at_ (s.more.drop k) s.next) (fun i => [.blk ab 3 [.int .i64 s.at_], .blk tb 3 [.int .i64 i]]) ?_ s.next ?_).mono ?_
      · rintro j i hj hi
        refine YSpec.two hps hfr rfl rfl fun w1 rest1 rs1 hrs1 => ?_
        simp only [List.cons_append, List.nil_append] at hrs1
        subst hrs1
        rw [hass, hbody]
        have hu := upto_drop s.at_ s.more s.next j hj
        rw [← hi] at hu
        repeat (first | refine GRC.region rfl ?_)
        refine G.alloc rfl (fun cb => ?_)
        repeat (first | refine GE.nrm ?_ | refine G.storeBA rfl rfl rfl rfl rfl ?_ | refine G.nil ?_)
        refine GE.begin hst (by repeat first | exact tn_ | apply td_ rfl | apply tc_ | exact .here | apply Take1.there) ?_
        by_cases hx : s.at_ < (s.more.getD j default).1
        · rw [if_pos hx] at hu
          repeat (first | refine GRC.seq ?_ | refine GRC.region rfl ?_ | refine GRC.block ?_ | refine GE.nrm ?_ | refine GE.thenR ?_ | refine GRC.cond_yes rfl (by first | assumption | omega) ?_ | refine G.storeB rfl rfl rfl rfl rfl ?_ | (apply G.ex (hd := rfl); case h => (first | exact Ex.fieldB rfl | exact Ex.loadB rfl rfl | exact Ex.gtr rfl rfl)) | refine G.nil ?_ | refine GE.block_normal ?_)
          refine GE.endR hst hpn ⟨(s.more.getD j default).1, hu.symm, rfl⟩ (by repeat first | exact tn_ | apply td_ rfl | apply tc_ | exact .here | apply Take1.there) (by repeat (first | exact Subs.refl | refine Subs.skip ?_))
        · rw [if_neg hx] at hu
          repeat (first | refine GRC.seq ?_ | refine GRC.region rfl ?_ | refine GRC.block ?_ | refine GRC.skip ?_ | refine GE.nrm ?_ | refine GE.thenR ?_ | refine GRC.cond_no rfl (by first | assumption | omega) ?_ | (apply G.ex (hd := rfl); case h => (first | exact Ex.fieldB rfl | exact Ex.loadB rfl rfl | exact Ex.gtr rfl rfl)) | refine G.nil ?_ | refine GE.block_normal ?_)
          refine GE.endR hst hpn ⟨i, hu.symm, rfl⟩ (by repeat first | exact tn_ | apply td_ rfl | apply tc_ | exact .here | apply Take1.there) (by repeat (first | exact Subs.refl | refine Subs.skip ?_))
      · rw [List.drop_eq_nil_of_le (Nat.le_refl _)]; rfl
      · rintro v give ⟨i, hi, rfl, rfl⟩
        have hi' : i = s.to1 := hi
        subst hi'
        exact ⟨_, rfl, rfl⟩
    · rintro D v g rfl rs1 hrs1
      simp only [List.cons_append, List.nil_append] at hrs1
      subst hrs1
      have hpc := piece_sp hb s hk A T (by omega) (by omega) da dc mo mc
      rw [← hA, ← hT] at hpc
      repeat (first | (apply G.ex (hd := rfl); case h => (first | exact Ex.move rfl | exact Ex.loadB rfl rfl)) | refine GC.seq ?_ | refine GC.region ?_ | refine GE.then_normal ?_ | refine GE.block_normal ?_)
      first | refine G.call (caps := []) (hpc) rfl rfl rfl rfl (by repeat first | exact tn_ | apply td_ rfl | apply tc_ | exact .here | apply Take1.there) ?_ | refine G.callU (caps := []) (hpc) rfl rfl rfl (by repeat first | exact tn_ | apply td_ rfl | apply tc_ | exact .here | apply Take1.there) ?_
      rintro v_ give_ ⟨xo, xc, rfl, rfl⟩ rs_ hrs_
      simp only [List.cons_append, List.nil_append] at hrs_
      subst hrs_
      refine G.alloc rfl (fun sb => ?_)
      repeat (first | refine G.storeBA rfl rfl rfl rfl rfl ?_ | (apply G.ex (hd := rfl); case h => (first | exact Ex.move rfl | exact Ex.loadBA rfl rfl rfl)) | refine G.nil ?_ | refine GC.seq ?_ | refine GC.region ?_ | refine GE.then_normal ?_)
      first | refine G.call (caps := []) (after_sp hb ⟨0, s.at_, pieceF s s.at_ s.to1, finF s s.at_ s.to1, false, false, 0⟩ xo xc (by simp only; omega) (by simp only; omega)) rfl rfl rfl rfl (by repeat first | exact tn_ | apply td_ rfl | apply tc_ | exact .here | apply Take1.there) ?_ | refine G.callU (caps := []) (after_sp hb ⟨0, s.at_, pieceF s s.at_ s.to1, finF s s.at_ s.to1, false, false, 0⟩ xo xc (by simp only; omega) (by simp only; omega)) rfl rfl rfl (by repeat first | exact tn_ | apply td_ rfl | apply tc_ | exact .here | apply Take1.there) ?_
      rintro v_ give_ ⟨rfl, rfl⟩ rs_ hrs_
      simp only [List.cons_append, List.nil_append] at hrs_
      subst hrs_
      rw [hae]
      repeat (first | refine G.storeB rfl rfl rfl rfl rfl ?_ | refine G.storeBA rfl rfl rfl rfl rfl ?_ | (apply G.ex (hd := rfl); case h => (first | exact Ex.nilCheck rfl | exact Ex.fieldB rfl | exact Ex.loadBA rfl rfl rfl)) | refine G.nil ?_ | refine GC.seq ?_ | refine GC.region ?_ | refine GC.ret ?_ | refine GE.then_normal ?_ | refine GE.then_ret ?_)
      refine GE.retM (by first | exact .inl rfl | exact .inr rfl) (by repeat first | exact tn_ | apply td_ rfl | apply tc_ | exact .here | apply Take1.there) (resR1 Try.results33 (by first | exact RV.cell rfl (eP_len _) | exact RV.cell rfl rfl | exact RV.cell1 rfl)) ⟨xo, xc, rfl, rfl⟩ (by repeat first | exact tn_ | apply td_ rfl | apply tc_ | exact .here | apply Take1.there) (by repeat (first | exact Subs.refl | refine Subs.skip ?_))
  · by_cases hle : s.to2 ≤ s.next
    · have hP : pollF s = (s, ⟨0, 0, [], false, false, true, s.left⟩) := by unfold pollF; rw [if_neg hlt, if_pos hle]
      rw [hP]
      have hle' : min s.end_ s.edge ≤ s.next := hle
      refine GE.then_normal ?_
      first | refine G.nilvec 5 1 ?_ | refine GC.nilvec 5 1 ?_
      first | refine G.frz none ?_ | refine GC.frz none ?_ | refine GE.frz none ?_
      repeat ((fail_if_success (refine GC.draw (id := 11) (by kernel_rfl) (by kernel_rfl) ?_)); first | (apply Gq.ex (hd := rfl); case h => (first | exact Ex.move rfl | exact Ex.nilCheck rfl | exact Ex.fieldB rfl | exact Ex.loadB rfl rfl | exact Ex.lss rfl rfl)) | refine Gq.nil ?_ | refine GC.seq ?_ | refine GC.draw (by kernel_rfl) (by kernel_rfl) ?_ | refine GC.skip ?_ | refine GE.then_normal ?_ | refine GC.cond_no rfl (by first | assumption | omega) ?_)
      refine GC.np ?_
      refine GC.drawA [] [.blk hb 79 [.slice da (s).data.length dc, .bool (s).closed, .int .i64 (s).done, .slice mo (s).more.length mc, .int .i64 (s).next, .int .i64 (s).again, .int .i64 (s).edge]] (by repeat first | exact tn_ | apply td_ rfl | apply tc_ | exact .here | apply Take1.there) (by kernel_rfl) ?_
      first | (apply GA.take [] (hD := .inl rfl) (hsub := ⟨_, Takes.nil⟩) (i := 0) (hi := rfl) (hs := by kernel_rfl) (hfr := by kernel_rfl) (hr := by kernel_rfl) (hQ := np_) (hd := rfl); case hx => (first | exact Ex.move rfl))
      first | (apply GA.take [] (hD := .inl rfl) (hsub := ⟨_, Takes.nil⟩) (i := 2) (hi := rfl) (hs := by kernel_rfl) (hfr := by kernel_rfl) (hr := by kernel_rfl) (hQ := np_) (hd := rfl); case hx => (first | exact Ex.move rfl))
      first | (apply GA.take [] (hD := .inl rfl) (hsub := ⟨_, Takes.nil⟩) (i := 3) (hi := rfl) (hs := by kernel_rfl) (hfr := by kernel_rfl) (hr := by kernel_rfl) (hQ := np_) (hd := rfl); case hx => (first | exact Ex.nilCheck rfl))
      first | (apply GA.take [] (hD := .inl rfl) (hsub := ⟨_, Takes.nil⟩) (i := 4) (hi := rfl) (hs := by kernel_rfl) (hfr := by kernel_rfl) (hr := by kernel_rfl) (hQ := np_) (hd := rfl); case hx => (first | exact Ex.fieldB rfl))
      first | (apply GA.take _ (hD := .inr ⟨rfl, by kernel_rfl⟩) (hsub := ⟨_, (by repeat first | exact tn_ | apply td_ rfl | apply tc_ | exact .here | apply Take1.there)⟩) (i := 5) (hi := rfl) (hs := by kernel_rfl) (hfr := by kernel_rfl) (hr := by kernel_rfl) (hQ := np_) (hd := rfl); case hx => (first | exact Ex.loadB rfl rfl))
      refine GA.one (i := 1) (by kernel_rfl) rfl ?_
      first | refine G.call (caps := []) (end_sp hb s hk da dc mo mc) rfl rfl rfl rfl (by repeat first | exact tn_ | apply td_ rfl | apply tc_ | exact .here | apply Take1.there) ?_ | refine G.callU (caps := []) (end_sp hb s hk da dc mo mc) rfl rfl rfl (by repeat first | exact tn_ | apply td_ rfl | apply tc_ | exact .here | apply Take1.there) ?_
      rintro v_ give_ ⟨rfl, rfl⟩ rs_ hrs_
      simp only [List.cons_append, List.nil_append] at hrs_
      subst hrs_
      try refine G.nil ?_
      refine GA.back (by first | exact .inl (by decide) | exact .inr ⟨_, (by repeat first | exact tn_ | apply td_ rfl | apply tc_ | exact .here | apply Take1.there)⟩) ?_
      first | (apply GA.take [] (hD := .inl rfl) (hsub := ⟨_, Takes.nil⟩) (i := 6) (hi := rfl) (hs := by kernel_rfl) (hfr := by kernel_rfl) (hr := by kernel_rfl) (hQ := np_) (hd := rfl); case hx => (first | exact Ex.min rfl rfl))
      first | (apply GA.take [] (hD := .inl rfl) (hsub := ⟨_, Takes.nil⟩) (i := 7) (hi := rfl) (hs := by kernel_rfl) (hfr := by kernel_rfl) (hr := by kernel_rfl) (hQ := np_) (hd := rfl); case hx => (first | exact Ex.assign rfl))
      refine GA.done (by kernel_rfl) ?_
      refine GE.np ?_
      repeat (first | refine G.storeBA rfl rfl rfl rfl rfl ?_ | (apply G.ex (hd := rfl); case h => (first | exact Ex.move rfl | exact Ex.nilCheck rfl | exact Ex.fieldB rfl | exact Ex.loadB rfl rfl | exact Ex.geq rfl rfl | exact Ex.build rfl rfl)) | refine G.nil ?_ | refine GC.seq ?_ | refine GC.region ?_ | refine GC.ret ?_ | refine GE.then_normal ?_ | refine GE.then_ret ?_ | refine GC.cond_yes rfl (by first | assumption | omega) ?_)
      refine GE.retM0 (by first | exact .inl rfl | exact .inr rfl) (resR1 Try.results33 (by first | exact RV.cell rfl (eP_len _) | exact RV.cell rfl rfl | exact RV.cell1 rfl)) ⟨none, 0, rfl, rfl⟩ (by repeat first | exact tn_ | apply td_ rfl | apply tc_ | exact .here | apply Take1.there) (by repeat (first | exact Subs.refl | refine Subs.skip ?_))
    · have hP : pollF s = ({ s with next := aftF s s.next s.to2, again := aftF s s.next s.to2 }, ⟨0, s.next, pieceF s s.next s.to2, finF s s.next s.to2, false, false, s.left⟩) := by unfold pollF; rw [if_neg hlt, if_neg hle]
      rw [hP]
      have hle' : ¬ min s.end_ s.edge ≤ s.next := hle
      have ht : s.to2 ≤ s.end_ := by unfold Se.to2; omega
      obtain ⟨b1, b2, b3, b4, b5⟩ := aft_bd (s := s) (a := s.next) (to := s.to2) (by omega) (by omega) ht
      have hln := piece_len (s := s) (a := s.next) (to := s.to2) (by omega) (by omega) ht
      have hae := aft_eq (s := s) (a := s.next) (to := s.to2) (by omega) (by omega) ht
      obtain ⟨A, hA⟩ : ∃ A : Nat, s.next = (A : Int) := ⟨s.next.toNat, by omega⟩
      obtain ⟨T, hT⟩ : ∃ T : Nat, s.to2 = (T : Int) := ⟨s.to2.toNat, by omega⟩
      have hpc := piece_sp hb s hk A T (by omega) (by omega) da dc mo mc
      rw [← hA, ← hT] at hpc
      repeat ((fail_if_success (refine GC.draw (id := 11) (by kernel_rfl) (by kernel_rfl) ?_)); first | (apply Gq.ex (hd := rfl); case h => (first | exact Ex.move rfl | exact Ex.nilCheck rfl | exact Ex.fieldB rfl | exact Ex.loadB rfl rfl | exact Ex.lss rfl rfl)) | refine Gq.nil ?_ | refine GC.seq ?_ | refine GC.draw (by kernel_rfl) (by kernel_rfl) ?_ | refine GC.skip ?_ | refine GE.then_normal ?_ | refine GC.cond_no rfl (by first | assumption | omega) ?_)
      refine GC.np ?_
      refine GC.drawA [] [.blk hb 79 [.slice da (s).data.length dc, .bool (s).closed, .int .i64 (s).done, .slice mo (s).more.length mc, .int .i64 (s).next, .int .i64 (s).again, .int .i64 (s).edge]] (by repeat first | exact tn_ | apply td_ rfl | apply tc_ | exact .here | apply Take1.there) (by kernel_rfl) ?_
      first | (apply GA.take [] (hD := .inl rfl) (hsub := ⟨_, Takes.nil⟩) (i := 0) (hi := rfl) (hs := by kernel_rfl) (hfr := by kernel_rfl) (hr := by kernel_rfl) (hQ := np_) (hd := rfl); case hx => (first | exact Ex.move rfl))
      first | (apply GA.take [] (hD := .inl rfl) (hsub := ⟨_, Takes.nil⟩) (i := 2) (hi := rfl) (hs := by kernel_rfl) (hfr := by kernel_rfl) (hr := by kernel_rfl) (hQ := np_) (hd := rfl); case hx => (first | exact Ex.move rfl))
      first | (apply GA.take [] (hD := .inl rfl) (hsub := ⟨_, Takes.nil⟩) (i := 3) (hi := rfl) (hs := by kernel_rfl) (hfr := by kernel_rfl) (hr := by kernel_rfl) (hQ := np_) (hd := rfl); case hx => (first | exact Ex.nilCheck rfl))
      first | (apply GA.take [] (hD := .inl rfl) (hsub := ⟨_, Takes.nil⟩) (i := 4) (hi := rfl) (hs := by kernel_rfl) (hfr := by kernel_rfl) (hr := by kernel_rfl) (hQ := np_) (hd := rfl); case hx => (first | exact Ex.fieldB rfl))
      first | (apply GA.take _ (hD := .inr ⟨rfl, by kernel_rfl⟩) (hsub := ⟨_, (by repeat first | exact tn_ | apply td_ rfl | apply tc_ | exact .here | apply Take1.there)⟩) (i := 5) (hi := rfl) (hs := by kernel_rfl) (hfr := by kernel_rfl) (hr := by kernel_rfl) (hQ := np_) (hd := rfl); case hx => (first | exact Ex.loadB rfl rfl))
      refine GA.one (i := 1) (by kernel_rfl) rfl ?_
      first | refine G.call (caps := []) (end_sp hb s hk da dc mo mc) rfl rfl rfl rfl (by repeat first | exact tn_ | apply td_ rfl | apply tc_ | exact .here | apply Take1.there) ?_ | refine G.callU (caps := []) (end_sp hb s hk da dc mo mc) rfl rfl rfl (by repeat first | exact tn_ | apply td_ rfl | apply tc_ | exact .here | apply Take1.there) ?_
      rintro v_ give_ ⟨rfl, rfl⟩ rs_ hrs_
      simp only [List.cons_append, List.nil_append] at hrs_
      subst hrs_
      try refine G.nil ?_
      refine GA.back (by first | exact .inl (by decide) | exact .inr ⟨_, (by repeat first | exact tn_ | apply td_ rfl | apply tc_ | exact .here | apply Take1.there)⟩) ?_
      first | (apply GA.take [] (hD := .inl rfl) (hsub := ⟨_, Takes.nil⟩) (i := 6) (hi := rfl) (hs := by kernel_rfl) (hfr := by kernel_rfl) (hr := by kernel_rfl) (hQ := np_) (hd := rfl); case hx => (first | exact Ex.min rfl rfl))
      first | (apply GA.take [] (hD := .inl rfl) (hsub := ⟨_, Takes.nil⟩) (i := 7) (hi := rfl) (hs := by kernel_rfl) (hfr := by kernel_rfl) (hr := by kernel_rfl) (hQ := np_) (hd := rfl); case hx => (first | exact Ex.assign rfl))
      refine GA.done (by kernel_rfl) ?_
      refine GE.np ?_
      repeat (first | (apply G.ex (hd := rfl); case h => (first | exact Ex.move rfl | exact Ex.nilCheck rfl | exact Ex.fieldB rfl | exact Ex.loadB rfl rfl | exact Ex.geq rfl rfl)) | refine G.nil ?_ | refine GC.seq ?_ | refine GC.region ?_ | refine GC.skip ?_ | refine GE.then_normal ?_ | refine GC.cond_no rfl (by first | assumption | omega) ?_)
      rw [show min s.end_ s.edge = s.to2 from rfl]
      first | refine G.call (caps := []) (hpc) rfl rfl rfl rfl (by repeat first | exact tn_ | apply td_ rfl | apply tc_ | exact .here | apply Take1.there) ?_ | refine G.callU (caps := []) (hpc) rfl rfl rfl (by repeat first | exact tn_ | apply td_ rfl | apply tc_ | exact .here | apply Take1.there) ?_
      rintro v_ give_ ⟨xo, xc, rfl, rfl⟩ rs_ hrs_
      simp only [List.cons_append, List.nil_append] at hrs_
      subst hrs_
      refine G.alloc rfl (fun sb => ?_)
      repeat (first | refine G.storeBA rfl rfl rfl rfl rfl ?_ | (apply G.ex (hd := rfl); case h => (first | exact Ex.move rfl | exact Ex.loadBA rfl rfl rfl)) | refine G.nil ?_ | refine GC.seq ?_ | refine GC.region ?_ | refine GE.then_normal ?_)
      first | refine G.call (caps := []) (after_sp hb ⟨0, s.next, pieceF s s.next s.to2, finF s s.next s.to2, false, false, 0⟩ xo xc (by simp only; omega) (by simp only; omega)) rfl rfl rfl rfl (by repeat first | exact tn_ | apply td_ rfl | apply tc_ | exact .here | apply Take1.there) ?_ | refine G.callU (caps := []) (after_sp hb ⟨0, s.next, pieceF s s.next s.to2, finF s s.next s.to2, false, false, 0⟩ xo xc (by simp only; omega) (by simp only; omega)) rfl rfl rfl (by repeat first | exact tn_ | apply td_ rfl | apply tc_ | exact .here | apply Take1.there) ?_
      rintro v_ give_ ⟨rfl, rfl⟩ rs_ hrs_
      simp only [List.cons_append, List.nil_append] at hrs_
      subst hrs_
      rw [hae]
      repeat (first | refine G.storeB rfl rfl rfl rfl rfl ?_ | refine G.storeBA rfl rfl rfl rfl rfl ?_ | (apply G.ex (hd := rfl); case h => (first | exact Ex.move rfl | exact Ex.nilCheck rfl | exact Ex.fieldB rfl | exact Ex.loadB rfl rfl | exact Ex.loadBA rfl rfl rfl)) | refine G.nil ?_ | refine GC.seq ?_ | refine GC.region ?_ | refine GC.ret ?_ | refine GE.then_normal ?_)
      refine GE.retM0 (by first | exact .inl rfl | exact .inr rfl) (resR1 Try.results33 (by first | exact RV.cell rfl (eP_len _) | exact RV.cell rfl rfl | exact RV.cell1 rfl)) ⟨xo, xc, rfl, rfl⟩ (by repeat first | exact tn_ | apply td_ rfl | apply tc_ | exact .here | apply Take1.there) (by repeat (first | exact Subs.refl | refine Subs.skip ?_))
end send
end Go.Proofs.Ytcllddkhnbnigaa
