/-
  CONTRACT of the wire's reply, by the kit.
-/
import Derived.Test.YtcllddkhnbnigaaPipeB
namespace Go.Proofs.Ytcllddkhnbnigaa
open Go.RowKit
attribute [local irreducible] Ex G GC GE Gq FPost LPost
set_option linter.unusedVariables false
set_option linter.unusedSimpArgs false
namespace pipe
open hole
set_option maxHeartbeats 8000000 in
theorem reply_sp (wb : Nat) (m : WM) (w : Wi) (hw : MW m w) (hf : 0 ≤ w.first ∧ w.first < 65536) (hn : m.FM.length ≤ 999) (t : recv.ToM) (ht : TOk t.t) (hd : t.t.data.length ≤ 5000) (ha : 0 ≤ t.t.ack ∧ t.t.ack ≤ 2000000) (hs : ∀ r ∈ t.t.sacks, (0 ≤ r.1 ∧ r.1 ≤ 2000000) ∧ 0 ≤ r.2 ∧ r.2 ≤ 2000000) :
    Spec Try.prog 29 [.pointer (some (badr wb 0)), .agg (recv.eTo t).toArray] [.own (Star (wR wb m w)), .sl t.so t.t.sacks.length t.sc 2 (flat eR t.t.sacks), .sl t.xo t.t.data.length t.xc 1 (flat eB t.t.data)]
      fun v give => ∃ m' yo yc, MW m' (replyF w t.t).1 ∧ v = .agg (ePa ⟨(replyF w t.t).2, yo, yc⟩).toArray ∧ give = [.own (Star (wR wb m' (replyF w t.t).1)), .sl yo (replyF w t.t).2.data.length yc 1 (flat eB (replyF w t.t).2.data)] := by
  obtain ⟨sb, hb, da, dc, mo, mc, ea, ec, no_, nc, fo, fc, FM⟩ := m
  obtain ⟨⟨code, ack, win, sk, data, fin⟩, so, sc, xo, xc⟩ := t
  simp only at hd ha hs
  have hsk : sk.length ≤ 3 := ht.n
  unfold replyF
  simp only
  refine Spec.intro Try.func29 rfl Try.ntmps29 rfl fun w0 rest rs_ hrs_ => ?_
  simp only [List.cons_append, List.nil_append] at hrs_
  subst hrs_
  repeat (first | refine GC.seq ?_ | refine GC.region ?_)
  refine G.box rfl rfl rfl (fun tb => ?_)
  rw [show (Value.agg (recv.eTo ⟨⟨code, ack, win, sk, data, fin⟩, so, sc, xo, xc⟩).toArray).cells.toList = recv.eTo ⟨⟨code, ack, win, sk, data, fin⟩, so, sc, xo, xc⟩ from rfl]
  refine G.alloc rfl (fun rb => ?_)
  repeat (first | (apply G.ex (hd := rfl); case h => (first | exact Ex.fieldB rfl | exact Ex.loadB rfl rfl | exact Ex.neI rfl rfl)) | refine G.nil ?_ | refine GC.seq ?_ | refine GC.region ?_ | refine GE.then_normal ?_)
  by_cases hc : code = 0
  · rw [if_neg (fun h => h hc)]
    have hc' : ¬ ¬ code = 0 := fun h => h hc
    have hmk := mark_sp wb w.first hf (.pointer (some (badr sb 0))) (.pointer (some (badr hb 0))) (.slice fo FM.length fc) ack ha
    refine GC.conv (rs' := _) (fun w_ H_ => Holds.starOuts (l := [.blk wb 60 [.int .i64 ((w).first), .pointer (some (badr sb 0)), .pointer (some (badr hb 0)), .slice fo (FM).length fc], .vec 92 3 fo (FM).length fc (flat eFr (FM)), .own (Star ((FM).map rFr)), .blk sb 79 [.slice da ((w).se).data.length dc, .bool ((w).se).closed, .int .i64 ((w).se).done, .slice mo ((w).se).more.length mc, .int .i64 ((w).se).next, .int .i64 ((w).se).again, .int .i64 ((w).se).edge], .vec 5 1 da ((w).se).data.length dc (flat eB ((w).se).data), .sl mo ((w).se).more.length mc 2 (flat eR ((w).se).more), .blk hb 81 [.int .i64 ((w).he).room, .slice ea ((w).he).data.length ec, .int .i64 ((w).he).done, .slice no_ ((w).he).more.length nc, .int .i64 ((w).he).taken, .int .i64 ((w).he).end_], .vec 5 1 ea ((w).he).data.length ec (flat eB ((w).he).data), .sl no_ ((w).he).more.length nc 2 (flat eR ((w).he).more)]) (H_.take (need := [.own (Star ([.blk wb 60 [.int .i64 ((w).first), .pointer (some (badr sb 0)), .pointer (some (badr hb 0)), .slice fo (FM).length fc], .vec 92 3 fo (FM).length fc (flat eFr (FM)), .own (Star ((FM).map rFr)), .blk sb 79 [.slice da ((w).se).data.length dc, .bool ((w).se).closed, .int .i64 ((w).se).done, .slice mo ((w).se).more.length mc, .int .i64 ((w).se).next, .int .i64 ((w).se).again, .int .i64 ((w).se).edge], .vec 5 1 da ((w).se).data.length dc (flat eB ((w).se).data), .sl mo ((w).se).more.length mc 2 (flat eR ((w).se).more), .blk hb 81 [.int .i64 ((w).he).room, .slice ea ((w).he).data.length ec, .int .i64 ((w).he).done, .slice no_ ((w).he).more.length nc, .int .i64 ((w).he).taken, .int .i64 ((w).he).end_], .vec 5 1 ea ((w).he).data.length ec (flat eB ((w).he).data), .sl no_ ((w).he).more.length nc 2 (flat eR ((w).he).more)]))]) (by repeat first | exact tn_ | apply td_ rfl | apply tc_ | exact .here | apply Take1.there))) ?_
    try simp only [List.append_eq, List.nil_append, List.cons_append]
    repeat (first | refine GC.seq ?_ | refine GC.skip ?_ | refine GE.then_normal ?_ | refine GC.cond_no rfl (by first | assumption | omega) ?_)
    refine GC.meet (ι := Nat) (fun _ => True) (fun qb => [(0, .pointer (some (badr wb 0))), (3, .pointer (some (badr tb 0))), (4, .pointer (some (badr rb 0))), (5, .pointer (some (badr qb 0)))]) (fun qb => [.blk qb 89 [.int .i64 0, .int .i64 (mk w.first ack), .int .i64 win, .bool false, .bool false, .bool false, .bool true, .slice none 0 0, .slice none 0 0], .blk rb 39 [.int .i64 0, .bool false, .int .i64 0, .slice none 0 0, .bool false, .int .i64 0], .blk tb 73 (recv.eTo ⟨⟨code, ack, win, sk, data, fin⟩, so, sc, xo, xc⟩), .sl so sk.length sc 2 (flat eR sk), .sl xo data.length xc 1 (flat eB data), .blk wb 60 [.int .i64 ((w).first), .pointer (some (badr sb 0)), .pointer (some (badr hb 0)), .slice fo (FM).length fc], .vec 92 3 fo (FM).length fc (flat eFr (FM)), .own (Star ((FM).map rFr)), .blk sb 79 [.slice da ((w).se).data.length dc, .bool ((w).se).closed, .int .i64 ((w).se).done, .slice mo ((w).se).more.length mc, .int .i64 ((w).se).next, .int .i64 ((w).se).again, .int .i64 ((w).se).edge], .vec 5 1 da ((w).se).data.length dc (flat eB ((w).se).data), .sl mo ((w).se).more.length mc 2 (flat eR ((w).se).more), .blk hb 81 [.int .i64 ((w).he).room, .slice ea ((w).he).data.length ec, .int .i64 ((w).he).done, .slice no_ ((w).he).more.length nc, .int .i64 ((w).he).taken, .int .i64 ((w).he).end_], .vec 5 1 ea ((w).he).data.length ec (flat eB ((w).he).data), .sl no_ ((w).he).more.length nc 2 (flat eR ((w).he).more)]) rest ?_ ?_
    · refine GC.drawA [] [.blk tb 73 (recv.eTo ⟨⟨code, ack, win, sk, data, fin⟩, so, sc, xo, xc⟩)] (by repeat first | exact tn_ | apply td_ rfl | apply tc_ | exact .here | apply Take1.there) (by kernel_rfl) ?_
      first | (apply GA.take [] (hD := .inl rfl) (hsub := ⟨_, Takes.nil⟩) (i := 0) (hi := rfl) (hs := by kernel_rfl) (hfr := by kernel_rfl) (hr := by kernel_rfl) (hQ := np_) (hd := rfl); case hx => (first | exact Ex.move rfl))
      first | (apply GA.take [] (hD := .inl rfl) (hsub := ⟨_, Takes.nil⟩) (i := 1) (hi := rfl) (hs := by kernel_rfl) (hfr := by kernel_rfl) (hr := by kernel_rfl) (hQ := np_) (hd := rfl); case hx => (first | exact Ex.fieldB rfl))
      first | (apply GA.take _ (hD := .inr ⟨rfl, by kernel_rfl⟩) (hsub := ⟨_, (by repeat first | exact tn_ | apply td_ rfl | apply tc_ | exact .here | apply Take1.there)⟩) (i := 2) (hi := rfl) (hs := by kernel_rfl) (hfr := by kernel_rfl) (hr := by kernel_rfl) (hQ := np_) (hd := rfl); case hx => (first | exact Ex.loadB rfl rfl))
      first | (apply GA.take [] (hD := .inl rfl) (hsub := ⟨_, Takes.nil⟩) (i := 4) (hi := rfl) (hs := by kernel_rfl) (hfr := by kernel_rfl) (hr := by kernel_rfl) (hQ := np_) (hd := rfl); case hx => (first | exact Ex.fieldB rfl))
      first | (apply GA.take _ (hD := .inr ⟨rfl, by kernel_rfl⟩) (hsub := ⟨_, (by repeat first | exact tn_ | apply td_ rfl | apply tc_ | exact .here | apply Take1.there)⟩) (i := 5) (hi := rfl) (hs := by kernel_rfl) (hfr := by kernel_rfl) (hr := by kernel_rfl) (hQ := np_) (hd := rfl); case hx => (first | exact Ex.loadB rfl rfl))
      refine GA.two (i := 3) (j := 7) (by kernel_rfl) rfl rfl ?_ ?_
      · first | refine G.call (caps := []) (hmk) rfl rfl rfl rfl (by repeat first | exact tn_ | apply td_ rfl | apply tc_ | exact .here | apply Take1.there) ?_ | refine G.callU (caps := []) (hmk) rfl rfl rfl (by repeat first | exact tn_ | apply td_ rfl | apply tc_ | exact .here | apply Take1.there) ?_
        rintro v_ give_ ⟨rfl, rfl⟩ rs_ hrs_
        simp only [List.cons_append, List.nil_append] at hrs_
        subst hrs_
        try refine G.nil ?_
        refine GA.back (by first | exact .inl (by decide) | exact .inr ⟨_, (by repeat first | exact tn_ | apply td_ rfl | apply tc_ | exact .here | apply Take1.there)⟩) ?_
        first | (apply GA.take [] (hD := .inl rfl) (hsub := ⟨_, Takes.nil⟩) (i := 6) (hi := rfl) (hs := by kernel_rfl) (hfr := by kernel_rfl) (hr := by kernel_rfl) (hQ := np_) (hd := rfl); case hx => (first | exact Ex.build rfl rfl))
        refine GA.one (i := 7) (by kernel_rfl) rfl ?_
        refine G.alloc rfl (fun qb => ?_)
        try refine G.nil ?_
        refine GA.back (by first | exact .inl (by decide) | exact .inr ⟨_, (by repeat first | exact tn_ | apply td_ rfl | apply tc_ | exact .here | apply Take1.there)⟩) ?_
        refine GA.one (i := 8) (by kernel_rfl) rfl ?_
        first | refine G.storeBA rfl rfl rfl rfl rfl ?_
        try refine G.nil ?_
        refine GA.back (by first | exact .inl (by decide) | exact .inr ⟨_, (by repeat first | exact tn_ | apply td_ rfl | apply tc_ | exact .here | apply Take1.there)⟩) ?_
        refine GA.done (by kernel_rfl) ?_
        refine GE.meet qb trivial (by simp only [fits]; repeat (first | exact trivial | refine And.intro rfl ?_)) (by repeat first | exact tn_ | apply td_ rfl | apply tc_ | exact .here | apply Take1.there) (by repeat (first | exact Subs.refl | refine Subs.skip ?_))
      · refine G.alloc rfl (fun qb => ?_)
        try refine G.nil ?_
        refine GA.back (by first | exact .inl (by decide) | exact .inr ⟨_, (by repeat first | exact tn_ | apply td_ rfl | apply tc_ | exact .here | apply Take1.there)⟩) ?_
        refine GA.one (i := 3) (by kernel_rfl) rfl ?_
        first | refine G.call (caps := []) (hmk) rfl rfl rfl rfl (by repeat first | exact tn_ | apply td_ rfl | apply tc_ | exact .here | apply Take1.there) ?_ | refine G.callU (caps := []) (hmk) rfl rfl rfl (by repeat first | exact tn_ | apply td_ rfl | apply tc_ | exact .here | apply Take1.there) ?_
        rintro v_ give_ ⟨rfl, rfl⟩ rs_ hrs_
        simp only [List.cons_append, List.nil_append] at hrs_
        subst hrs_
        try refine G.nil ?_
        refine GA.back (by first | exact .inl (by decide) | exact .inr ⟨_, (by repeat first | exact tn_ | apply td_ rfl | apply tc_ | exact .here | apply Take1.there)⟩) ?_
        first | (apply GA.take [] (hD := .inl rfl) (hsub := ⟨_, Takes.nil⟩) (i := 6) (hi := rfl) (hs := by kernel_rfl) (hfr := by kernel_rfl) (hr := by kernel_rfl) (hQ := np_) (hd := rfl); case hx => (first | exact Ex.build rfl rfl))
        refine GA.one (i := 8) (by kernel_rfl) rfl ?_
        first | refine G.storeBA rfl rfl rfl rfl rfl ?_
        try refine G.nil ?_
        refine GA.back (by first | exact .inl (by decide) | exact .inr ⟨_, (by repeat first | exact tn_ | apply td_ rfl | apply tc_ | exact .here | apply Take1.there)⟩) ?_
        refine GA.done (by kernel_rfl) ?_
        refine GE.meet qb trivial (by simp only [fits]; repeat (first | exact trivial | refine And.intro rfl ?_)) (by repeat first | exact tn_ | apply td_ rfl | apply tc_ | exact .here | apply Take1.there) (by repeat (first | exact Subs.refl | refine Subs.skip ?_))
    · rintro qb - fr_ rs_ hfr_ hrs_
      simp only [List.cons_append, List.nil_append] at hfr_ hrs_
      subst hfr_ hrs_
      repeat (first | (apply G.ex (hd := rfl); case h => (first | exact Ex.move rfl | exact Ex.fieldB rfl | exact Ex.loadB rfl rfl | exact Ex.lenSl rfl)) | refine G.nil ?_ | refine GC.seq ?_ | refine GC.region ?_ | refine GC.block ?_ | refine GE.then_normal ?_)
      first | refine G.nilvec 102 2 ?_ | refine GC.nilvec 102 2 ?_
      refine GC.loop (ι := Nat × Option Addr × Nat) (fun x => x.1 ≤ sk.length) (fun x => sk.length - x.1) (fun x => [(0, .pointer (some (badr wb 0))), (3, .pointer (some (badr tb 0))), (4, .pointer (some (badr rb 0))), (5, .pointer (some (badr qb 0))), (22, .slice so sk.length sc), (23, .int .i64 (sk.length : Int)), (24, .int .i64 (x.1 : Int))]) (fun x => [.blk qb 89 [.int .i64 0, .int .i64 (mk w.first ack), .int .i64 win, .bool false, .bool false, .bool false, .bool true, .slice x.2.1 x.1 x.2.2, .slice none 0 0], .vec 102 2 x.2.1 x.1 x.2.2 (flat eR ((sk.take x.1).map (mkR w.first))), .blk rb 39 [.int .i64 0, .bool false, .int .i64 0, .slice none 0 0, .bool false, .int .i64 0], .blk tb 73 (recv.eTo ⟨⟨code, ack, win, sk, data, fin⟩, so, sc, xo, xc⟩), .sl so sk.length sc 2 (flat eR sk), .sl xo data.length xc 1 (flat eB data), .blk wb 60 [.int .i64 ((w).first), .pointer (some (badr sb 0)), .pointer (some (badr hb 0)), .slice fo (FM).length fc], .vec 92 3 fo (FM).length fc (flat eFr (FM)), .own (Star ((FM).map rFr)), .blk sb 79 [.slice da ((w).se).data.length dc, .bool ((w).se).closed, .int .i64 ((w).se).done, .slice mo ((w).se).more.length mc, .int .i64 ((w).se).next, .int .i64 ((w).se).again, .int .i64 ((w).se).edge], .vec 5 1 da ((w).se).data.length dc (flat eB ((w).se).data), .sl mo ((w).se).more.length mc 2 (flat eR ((w).se).more), .blk hb 81 [.int .i64 ((w).he).room, .slice ea ((w).he).data.length ec, .int .i64 ((w).he).done, .slice no_ ((w).he).more.length nc, .int .i64 ((w).he).taken, .int .i64 ((w).he).end_], .vec 5 1 ea ((w).he).data.length ec (flat eB ((w).he).data), .sl no_ ((w).he).more.length nc 2 (flat eR ((w).he).more)]) (0, none, 0) (Nat.zero_le _) (by simp only [fits]; repeat (first | exact trivial | refine And.intro rfl ?_)) (by repeat first | exact tn_ | apply td_ rfl | apply tc_ | exact .here | apply Take1.there) ?_
      rintro ⟨i, ro, rc⟩ hi fr_ rs_ hfr_ hrs_
      simp only [List.cons_append, List.nil_append] at hfr_ hrs_
      subst hfr_ hrs_
      simp only at hi
      repeat (first | (apply G.ex (hd := rfl); case h => (first | exact Ex.lss rfl rfl)) | refine G.nil ?_ | refine GC.seq ?_ | refine GC.region ?_ | refine GE.then_normal ?_)
      refine GC.cond_dec rfl (fun hlt => ?_) (fun hlt => ?_)
      · have hlt : i < sk.length := by omega
        repeat (first | (apply G.ex (hd := rfl); case h => (first | exact Ex.indexN rfl rfl (by first | omega | (simp; done) | (simp; omega)) | exact Ex.loadTA rfl (by first | omega | (simp; done) | (simp; omega)))) | refine GC.seq ?_ | refine GC.region ?_ | refine GC.block ?_ | refine GC.skip ?_ | refine GE.then_normal ?_)
        have hmem : sk.getD i default ∈ sk := by rw [List.getD_eq_getElem?_getD, List.getElem?_eq_getElem hlt]; exact List.getElem_mem hlt
        have hsi := hs _ hmem
        have hm1 := mark_sp wb w.first hf (.pointer (some (badr sb 0))) (.pointer (some (badr hb 0))) (.slice fo FM.length fc) (sk.getD i default).1 hsi.1
        have hm2 := mark_sp wb w.first hf (.pointer (some (badr sb 0))) (.pointer (some (badr hb 0))) (.slice fo FM.length fc) (sk.getD i default).2 hsi.2
        have hcat : flat eR ((sk.take i).map (mkR w.first)) ++ flat eR [mkR w.first (sk.getD i default)] = flat eR ((sk.take (i + 1)).map (mkR w.first)) := by
          rw [← flat_append, List.take_succ_eq_append_getElem hlt, List.map_append, List.getD_eq_getElem?_getD, List.getElem?_eq_getElem hlt]; rfl
        refine G.alloc rfl (fun yb => ?_)
        repeat (first | refine G.storeBA rfl rfl rfl rfl rfl ?_ | refine G.nil ?_ | refine GE.then_normal ?_)
        refine GC.drawA [14] [.blk qb 89 [.int .i64 0, .int .i64 (mk w.first ack), .int .i64 win, .bool false, .bool false, .bool false, .bool true, .slice ro i rc, .slice none 0 0], .blk yb 102 (eR (sk.getD i default))] (by repeat first | exact tn_ | apply td_ rfl | apply tc_ | exact .here | apply Take1.there) (by kernel_rfl) ?_
        first | (apply GA.take [] (hD := .inl rfl) (hsub := ⟨_, Takes.nil⟩) (i := 0) (hi := rfl) (hs := by kernel_rfl) (hfr := by kernel_rfl) (hr := by kernel_rfl) (hQ := np_) (hd := rfl); case hx => (first | exact Ex.fieldB rfl))
        first | (apply GA.take _ (hD := .inr ⟨rfl, by kernel_rfl⟩) (hsub := ⟨_, (by repeat first | exact tn_ | apply td_ rfl | apply tc_ | exact .here | apply Take1.there)⟩) (i := 1) (hi := rfl) (hs := by kernel_rfl) (hfr := by kernel_rfl) (hr := by kernel_rfl) (hQ := np_) (hd := rfl); case hx => (first | exact Ex.loadB rfl rfl))
        first | (apply GA.take [] (hD := .inl rfl) (hsub := ⟨_, Takes.nil⟩) (i := 2) (hi := rfl) (hs := by kernel_rfl) (hfr := by kernel_rfl) (hr := by kernel_rfl) (hQ := np_) (hd := rfl); case hx => (first | exact Ex.move rfl))
        first | (apply GA.take [] (hD := .inl rfl) (hsub := ⟨_, Takes.nil⟩) (i := 3) (hi := rfl) (hs := by kernel_rfl) (hfr := by kernel_rfl) (hr := by kernel_rfl) (hQ := np_) (hd := rfl); case hx => (first | exact Ex.fieldB rfl))
        first | (apply GA.take _ (hD := .inr ⟨rfl, by kernel_rfl⟩) (hsub := ⟨_, (by repeat first | exact tn_ | apply td_ rfl | apply tc_ | exact .here | apply Take1.there)⟩) (i := 4) (hi := rfl) (hs := by kernel_rfl) (hfr := by kernel_rfl) (hr := by kernel_rfl) (hQ := np_) (hd := rfl); case hx => (first | exact Ex.loadB rfl rfl))
        first | (apply GA.take [] (hD := .inl rfl) (hsub := ⟨_, Takes.nil⟩) (i := 6) (hi := rfl) (hs := by kernel_rfl) (hfr := by kernel_rfl) (hr := by kernel_rfl) (hQ := np_) (hd := rfl); case hx => (first | exact Ex.move rfl))
        first | (apply GA.take [] (hD := .inl rfl) (hsub := ⟨_, Takes.nil⟩) (i := 7) (hi := rfl) (hs := by kernel_rfl) (hfr := by kernel_rfl) (hr := by kernel_rfl) (hQ := np_) (hd := rfl); case hx => (first | exact Ex.fieldB rfl))
        first | (apply GA.take _ (hD := .inr ⟨rfl, by kernel_rfl⟩) (hsub := ⟨_, (by repeat first | exact tn_ | apply td_ rfl | apply tc_ | exact .here | apply Take1.there)⟩) (i := 8) (hi := rfl) (hs := by kernel_rfl) (hfr := by kernel_rfl) (hr := by kernel_rfl) (hQ := np_) (hd := rfl); case hx => (first | exact Ex.loadB rfl rfl))
        refine GA.one (i := 5) (by kernel_rfl) rfl ?_
        first | refine G.call (caps := []) (hm1) rfl rfl rfl rfl (by repeat first | exact tn_ | apply td_ rfl | apply tc_ | exact .here | apply Take1.there) ?_ | refine G.callU (caps := []) (hm1) rfl rfl rfl (by repeat first | exact tn_ | apply td_ rfl | apply tc_ | exact .here | apply Take1.there) ?_
        rintro v_ give_ ⟨rfl, rfl⟩ rs_ hrs_
        simp only [List.cons_append, List.nil_append] at hrs_
        subst hrs_
        try refine G.nil ?_
        refine GA.back (by first | exact .inl (by decide) | exact .inr ⟨_, (by repeat first | exact tn_ | apply td_ rfl | apply tc_ | exact .here | apply Take1.there)⟩) ?_
        refine GA.one (i := 9) (by kernel_rfl) rfl ?_
        first | refine G.call (caps := []) (hm2) rfl rfl rfl rfl (by repeat first | exact tn_ | apply td_ rfl | apply tc_ | exact .here | apply Take1.there) ?_ | refine G.callU (caps := []) (hm2) rfl rfl rfl (by repeat first | exact tn_ | apply td_ rfl | apply tc_ | exact .here | apply Take1.there) ?_
        rintro v_ give_ ⟨rfl, rfl⟩ rs_ hrs_
        simp only [List.cons_append, List.nil_append] at hrs_
        subst hrs_
        try refine G.nil ?_
        refine GA.back (by first | exact .inl (by decide) | exact .inr ⟨_, (by repeat first | exact tn_ | apply td_ rfl | apply tc_ | exact .here | apply Take1.there)⟩) ?_
        first | (apply GA.take [] (hD := .inl rfl) (hsub := ⟨_, Takes.nil⟩) (i := 10) (hi := rfl) (hs := by kernel_rfl) (hfr := by kernel_rfl) (hr := by kernel_rfl) (hQ := np_) (hd := rfl); case hx => (first | exact Ex.build rfl rfl))
        refine GA.one (i := 11) (by kernel_rfl) rfl ?_
        refine G.lit rfl (by rfl) (by rfl) (by rfl) (by rfl) (by rfl) (by rfl) rfl (fun y1 => ?_)
        try refine G.nil ?_
        refine GA.back (by first | exact .inl (by decide) | exact .inr ⟨_, (by repeat first | exact tn_ | apply td_ rfl | apply tc_ | exact .here | apply Take1.there)⟩) ?_
        refine GA.one (i := 12) (by kernel_rfl) rfl ?_
        refine G.app rfl rfl (by rfl) (by omega) rfl (hcat) (fun a2 c2 rs_ hrs_ => ?_)
        try simp only at hrs_
        subst hrs_
        try refine G.nil ?_
        refine GA.back (by first | exact .inl (by decide) | exact .inr ⟨_, (by repeat first | exact tn_ | apply td_ rfl | apply tc_ | exact .here | apply Take1.there)⟩) ?_
        first | (apply GA.take [] (hD := .inl rfl) (hsub := ⟨_, Takes.nil⟩) (i := 13) (hi := rfl) (hs := by kernel_rfl) (hfr := by kernel_rfl) (hr := by kernel_rfl) (hQ := np_) (hd := rfl); case hx => (first | exact Ex.fieldB rfl))
        refine GA.one (i := 14) (by kernel_rfl) rfl ?_
        first | refine G.storeB rfl rfl rfl rfl rfl ?_
        try refine G.nil ?_
        refine GA.back (by first | exact .inl (by decide) | exact .inr ⟨_, (by repeat first | exact tn_ | apply td_ rfl | apply tc_ | exact .here | apply Take1.there)⟩) ?_
        refine GA.done (by kernel_rfl) ?_
        repeat (first | (apply G.ex (hd := rfl); case h => (first | exact Ex.move rfl | exact Ex.add rfl rfl (by omega))) | refine G.nil ?_ | refine GC.region ?_ | refine GE.then_normal ?_ | refine GE.block_normal ?_)
        refine GE.loop (i + 1, a2, c2) (by simp only; omega) (by simp only; omega) (by simp only [fits]; repeat (first | exact trivial | refine And.intro rfl ?_)) (by repeat first | exact tn_ | apply td_ rfl | apply tc_ | exact .here | apply Take1.there) (by repeat (first | exact Subs.refl | refine Subs.skip ?_))
      · have hin : i = sk.length := by omega
        subst hin
        rw [List.take_length]
        have ht9 : TOk ⟨code, ack, win, sk, data, fin⟩ := ht
        obtain ⟨hr0, h00⟩ := told_seg (f := w.first) ht9
        have hrd : RdR (.vec 102 2 ro sk.length rc (flat eR (sk.map (mkR w.first)))) ro (sk.map (mkR w.first)).length rc 2 (flat eR (sk.map (mkR w.first))) := by rw [List.length_map]; exact RdR.vec
        have heq : seg.eSg (segR w.first ⟨code, ack, win, sk, data, fin⟩) ro rc none 0 = [.int .i64 0, .int .i64 (mk w.first ack), .int .i64 win, .bool false, .bool false, .bool false, .bool true, .slice ro sk.length rc, .slice none 0 0] := by simp [seg.eSg, seg.sg, segR, seg.bt]
        have hput := put_sp wb (.int .i64 w.first) (.pointer (some (badr sb 0))) (.pointer (some (badr hb 0))) fo fc FM (by simp only at hn; omega) (segR w.first ⟨code, ack, win, sk, data, fin⟩) hr0 h00 true (.vec 102 2 ro sk.length rc (flat eR (sk.map (mkR w.first)))) (.sl none 0 0 1 []) ro rc none 0 (hr := hrd) (hd := RdR.sl)
        rw [heq] at hput
        clear hrd
        have hel := seg.enc_len (segR w.first ⟨code, ack, win, sk, data, fin⟩)
        obtain ⟨q3, q64⟩ := seg.flt_len h00
        refine GC.nilsl 1 ?_
        repeat (first | refine GC.seq ?_ | refine GC.exit ?_ | refine GE.then_normal ?_ | refine GE.then_exit ?_ | refine GE.block_hit ?_)
        refine GC.drawA [9] [.blk qb 89 [.int .i64 0, .int .i64 (mk w.first ack), .int .i64 win, .bool false, .bool false, .bool false, .bool true, .slice ro sk.length rc, .slice none 0 0], .blk tb 73 (recv.eTo ⟨⟨code, ack, win, sk, data, fin⟩, so, sc, xo, xc⟩)] (by repeat first | exact tn_ | apply td_ rfl | apply tc_ | exact .here | apply Take1.there) (by kernel_rfl) ?_
        first | (apply GA.take [] (hD := .inl rfl) (hsub := ⟨_, Takes.nil⟩) (i := 0) (hi := rfl) (hs := by kernel_rfl) (hfr := by kernel_rfl) (hr := by kernel_rfl) (hQ := np_) (hd := rfl); case hx => (first | exact Ex.move rfl))
        first | (apply GA.take _ (hD := .inr ⟨rfl, by kernel_rfl⟩) (hsub := ⟨_, (by repeat first | exact tn_ | apply td_ rfl | apply tc_ | exact .here | apply Take1.there)⟩) (i := 1) (hi := rfl) (hs := by kernel_rfl) (hfr := by kernel_rfl) (hr := by kernel_rfl) (hQ := np_) (hd := rfl); case hx => (first | exact Ex.loadBA rfl rfl rfl))
        first | (apply GA.take [] (hD := .inl rfl) (hsub := ⟨_, Takes.nil⟩) (i := 3) (hi := rfl) (hs := by kernel_rfl) (hfr := by kernel_rfl) (hr := by kernel_rfl) (hQ := np_) (hd := rfl); case hx => (first | exact Ex.fieldB rfl))
        first | (apply GA.take _ (hD := .inr ⟨rfl, by kernel_rfl⟩) (hsub := ⟨_, (by repeat first | exact tn_ | apply td_ rfl | apply tc_ | exact .here | apply Take1.there)⟩) (i := 4) (hi := rfl) (hs := by kernel_rfl) (hfr := by kernel_rfl) (hr := by kernel_rfl) (hQ := np_) (hd := rfl); case hx => (first | exact Ex.loadB rfl rfl))
        first | (apply GA.take [] (hD := .inl rfl) (hsub := ⟨_, Takes.nil⟩) (i := 6) (hi := rfl) (hs := by kernel_rfl) (hfr := by kernel_rfl) (hr := by kernel_rfl) (hQ := np_) (hd := rfl); case hx => (first | exact Ex.fieldB rfl))
        first | (apply GA.take _ (hD := .inr ⟨rfl, by kernel_rfl⟩) (hsub := ⟨_, (by repeat first | exact tn_ | apply td_ rfl | apply tc_ | exact .here | apply Take1.there)⟩) (i := 7) (hi := rfl) (hs := by kernel_rfl) (hfr := by kernel_rfl) (hr := by kernel_rfl) (hQ := np_) (hd := rfl); case hx => (first | exact Ex.loadB rfl rfl))
        refine GA.one (i := 2) (by kernel_rfl) rfl ?_
        first | refine G.call (caps := []) (hput) rfl rfl rfl rfl (by repeat first | exact tn_ | apply td_ rfl | apply tc_ | exact .here | apply Take1.there) ?_ | refine G.callU (caps := []) (hput) rfl rfl rfl (by repeat first | exact tn_ | apply td_ rfl | apply tc_ | exact .here | apply Take1.there) ?_
        rintro v_ give_ ⟨mm, fo', fc', hmm, rfl, rfl⟩ rs_ hrs_
        simp only [List.cons_append, List.nil_append] at hrs_
        subst hrs_
        try refine G.nil ?_
        refine GA.back (by first | exact .inl (by decide) | exact .inr ⟨_, (by repeat first | exact tn_ | apply td_ rfl | apply tc_ | exact .here | apply Take1.there)⟩) ?_
        refine GA.one (i := 5) (by kernel_rfl) rfl ?_
        first | refine G.call (caps := []) (seg.cloneB2_sp (.sl xo data.length xc 1 (flat eB data)) xo data.length xc data rfl (by omega)) rfl rfl rfl rfl (by repeat first | exact tn_ | apply td_ rfl | apply tc_ | exact .here | apply Take1.there) ?_ | refine G.callU (caps := []) (seg.cloneB2_sp (.sl xo data.length xc 1 (flat eB data)) xo data.length xc data rfl (by omega)) rfl rfl rfl (by repeat first | exact tn_ | apply td_ rfl | apply tc_ | exact .here | apply Take1.there) ?_
        rintro v_ give_ ⟨k1, d1, rfl, rfl⟩ rs_ hrs_
        simp only [List.cons_append, List.nil_append] at hrs_
        subst hrs_
        first | refine G.frz k1 ?_ | refine GC.frz k1 ?_ | refine GE.frz k1 ?_
        try refine G.nil ?_
        refine GA.back (by first | exact .inl (by decide) | exact .inr ⟨_, (by repeat first | exact tn_ | apply td_ rfl | apply tc_ | exact .here | apply Take1.there)⟩) ?_
        first | (apply GA.take [] (hD := .inl rfl) (hsub := ⟨_, Takes.nil⟩) (i := 8) (hi := rfl) (hs := by kernel_rfl) (hfr := by kernel_rfl) (hr := by kernel_rfl) (hQ := np_) (hd := rfl); case hx => (first | exact Ex.build rfl rfl))
        refine GA.one (i := 9) (by kernel_rfl) rfl ?_
        first | refine G.storeBA rfl rfl rfl rfl rfl ?_
        try refine G.nil ?_
        refine GA.back (by first | exact .inl (by decide) | exact .inr ⟨_, (by repeat first | exact tn_ | apply td_ rfl | apply tc_ | exact .here | apply Take1.there)⟩) ?_
        refine GA.done (by kernel_rfl) ?_
        repeat (first | refine GC.ret ?_ | refine GE.then_normal ?_)
        refine GE.conv (rs' := _) (fun w_ H_ => Holds.starIns (l := [.blk wb 60 [.int .i64 ((w).first), .pointer (some (badr sb 0)), .pointer (some (badr hb 0)), .slice fo' (FM ++ [mm]).length fc'], .vec 92 3 fo' (FM ++ [mm]).length fc' (flat eFr (FM ++ [mm])), .own (Star ((FM ++ [mm]).map rFr)), .blk sb 79 [.slice da ((w).se).data.length dc, .bool ((w).se).closed, .int .i64 ((w).se).done, .slice mo ((w).se).more.length mc, .int .i64 ((w).se).next, .int .i64 ((w).se).again, .int .i64 ((w).se).edge], .vec 5 1 da ((w).se).data.length dc (flat eB ((w).se).data), .sl mo ((w).se).more.length mc 2 (flat eR ((w).se).more), .blk hb 81 [.int .i64 ((w).he).room, .slice ea ((w).he).data.length ec, .int .i64 ((w).he).done, .slice no_ ((w).he).more.length nc, .int .i64 ((w).he).taken, .int .i64 ((w).he).end_], .vec 5 1 ea ((w).he).data.length ec (flat eB ((w).he).data), .sl no_ ((w).he).more.length nc 2 (flat eR ((w).he).more)]) (H_.take (need := [.blk wb 60 [.int .i64 ((w).first), .pointer (some (badr sb 0)), .pointer (some (badr hb 0)), .slice fo' (FM ++ [mm]).length fc'], .vec 92 3 fo' (FM ++ [mm]).length fc' (flat eFr (FM ++ [mm])), .own (Star ((FM ++ [mm]).map rFr)), .blk sb 79 [.slice da ((w).se).data.length dc, .bool ((w).se).closed, .int .i64 ((w).se).done, .slice mo ((w).se).more.length mc, .int .i64 ((w).se).next, .int .i64 ((w).se).again, .int .i64 ((w).se).edge], .vec 5 1 da ((w).se).data.length dc (flat eB ((w).se).data), .sl mo ((w).se).more.length mc 2 (flat eR ((w).se).more), .blk hb 81 [.int .i64 ((w).he).room, .slice ea ((w).he).data.length ec, .int .i64 ((w).he).done, .slice no_ ((w).he).more.length nc, .int .i64 ((w).he).taken, .int .i64 ((w).he).end_], .vec 5 1 ea ((w).he).data.length ec (flat eB ((w).he).data), .sl no_ ((w).he).more.length nc 2 (flat eR ((w).he).more)]) (by repeat first | exact tn_ | apply td_ rfl | apply tc_ | exact .here | apply Take1.there))) ?_
        simp only [List.append_eq, List.nil_append, List.cons_append]
        have hlen2 : (FM.length : Int) = (w.fs.length : Int) := by rw [← hw.fs, List.length_map]
        rw [hlen2]
        refine GE.ret (by first | exact .inl rfl | exact .inr rfl) (resR1 Try.results29 (by first | exact RV.cell rfl (eP_len _) | exact RV.cell rfl rfl | exact RV.cell1 rfl)) ⟨⟨sb, hb, da, dc, mo, mc, ea, ec, no_, nc, fo', fc', FM ++ [mm]⟩, k1, d1, ⟨by show (FM ++ [mm]).map (·.f) = w.fs ++ [_]; rw [List.map_append, ← hw.fs, List.map_singleton, hmm], by show (FM ++ [mm]).length ≤ 1000; rw [List.length_append, List.length_singleton]; simp only at hn; omega, fun x hx => by rcases List.mem_append.1 hx with hx | hx; exact hw.b x hx; rw [List.mem_singleton] at hx; rw [hx, hmm]; show (seg.enc _).length ≤ 1000; omega⟩, rfl, rfl⟩ (by repeat first | exact tn_ | apply td_ rfl | apply tc_ | exact .here | apply Take1.there) (by repeat (first | exact Subs.refl | refine Subs.skip ?_))
  · rw [if_pos hc]
    repeat (first | (apply G.ex (hd := rfl); case h => (first | exact Ex.fieldB rfl | exact Ex.loadB rfl rfl)) | refine GC.seq ?_ | refine GC.region ?_ | refine GC.cond_yes rfl (by first | assumption | omega) ?_)
    first | refine G.call (caps := []) (no_sp code) rfl rfl rfl rfl (by repeat first | exact tn_ | apply td_ rfl | apply tc_ | exact .here | apply Take1.there) ?_ | refine G.callU (caps := []) (no_sp code) rfl rfl rfl (by repeat first | exact tn_ | apply td_ rfl | apply tc_ | exact .here | apply Take1.there) ?_
    rintro v_ give_ ⟨rfl, rfl⟩ rs_ hrs_
    simp only [List.cons_append, List.nil_append] at hrs_
    subst hrs_
    repeat (first | refine G.storeBA rfl rfl rfl rfl rfl ?_ | refine G.nil ?_ | refine GC.ret ?_ | refine GE.then_normal ?_ | refine GE.then_ret ?_)
    refine GE.nilsl 1 ?_
    refine GE.ret (by first | exact .inl rfl | exact .inr rfl) (resR1 Try.results29 (by first | exact RV.cell rfl (eP_len _) | exact RV.cell rfl rfl | exact RV.cell1 rfl)) ⟨⟨sb, hb, da, dc, mo, mc, ea, ec, no_, nc, fo, fc, FM⟩, none, 0, hw, rfl, rfl⟩ (by repeat first | exact tn_ | apply td_ rfl | apply tc_ | exact .here | apply Take1.there) (by repeat (first | exact Subs.refl | refine Subs.skip ?_))
end pipe
end Go.Proofs.Ytcllddkhnbnigaa
