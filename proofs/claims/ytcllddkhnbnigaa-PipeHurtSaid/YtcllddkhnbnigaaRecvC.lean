/-
  CONTRACTS of who hears: take and arrive, by the kit.
-/
import Derived.Test.YtcllddkhnbnigaaRecvB
import Derived.Test.YtcllddkhnbnigaaKitM2
namespace Go.Proofs.Ytcllddkhnbnigaa
open Go.RowKit
attribute [local irreducible] Ex G GC GE Gq FPost LPost
set_option linter.unusedVariables false
set_option linter.unusedSimpArgs false
namespace recv
open hole
theorem flat_cutB (l : List UInt8) (a b : Nat) : ((flat eB l).drop (a * 1)).take ((b - a) * 1) = flat eB ((l.drop a).take (b - a)) := by
  rw [flat_drop (inferInstance : Enc eB 1), flat_take (inferInstance : Enc eB 1)]
set_option maxHeartbeats 4000000 in
theorem take_sp (hb : Nat) (h : He) (hk : HOk h) (n : Int) (hn : AOk h (.take n)) (da : Option Addr) (dc : Nat) (mo : Option Addr) (mc : Nat) :
    Spec Try.prog 42 [.pointer (some (badr hb 0)), .int .i64 n] [.blk hb 81 [.int .i64 (h).room, .slice da (h).data.length dc, .int .i64 (h).done, .slice mo (h).more.length mc, .int .i64 (h).taken, .int .i64 (h).end_], .vec 5 1 da (h).data.length dc (flat eB (h).data)] fun v give => ∃ xo xc, v = .agg [.int .i64 0, .int .i64 0, .int .i64 0, .slice none 0 0, .slice xo (takeF h n).1.length xc, .bool (decide ((takeF h n).2.taken = (takeF h n).2.end_))].toArray ∧ give = [.blk hb 81 [.int .i64 ((takeF h n).2).room, .slice da ((takeF h n).2).data.length dc, .int .i64 ((takeF h n).2).done, .slice mo ((takeF h n).2).more.length mc, .int .i64 ((takeF h n).2).taken, .int .i64 ((takeF h n).2).end_], .vec 5 1 da (h).data.length dc (flat eB (h).data), .sl xo (takeF h n).1.length xc 1 (flat eB (takeF h n).1)] := by
  have k0 := hk.t0
  have k1 := hk.t1
  have kd := hk.dat
  have kl := hk.dle
  have kc := hk.cap
  obtain ⟨n0, n1⟩ := hn
  obtain ⟨T, hT⟩ : ∃ T : Nat, h.taken = (T : Int) := ⟨h.taken.toNat, by omega⟩
  obtain ⟨E, hE⟩ : ∃ E : Nat, h.taken + min n (h.done - h.taken) = (E : Int) := ⟨(h.taken + min n (h.done - h.taken)).toNat, by omega⟩
  have hTE : T ≤ E := by omega
  have hEd : E ≤ h.data.length := by omega
  have hX : (takeF h n).1 = (h.data.drop T).take (E - T) := by
    unfold takeF
    simp only
    rw [show h.taken.toNat = T by omega, show (min n (h.done - h.taken)).toNat = E - T by omega]
  have hXl : (takeF h n).1.length = E - T := by rw [hX, List.length_take, List.length_drop]; omega
  have hRd : RdR (.vec 5 1 da (h).data.length dc (flat eB (h).data)) (subA da dc T 1) (E - T) (dc - T) 1 (flat eB ((h.data.drop T).take (E - T))) := by
    rw [← flat_cutB]; exact RdR.piece T E hTE hEd
  have n2 : -9223372036854775808 ≤ h.done - h.taken ∧ h.done - h.taken ≤ 9223372036854775807 := by omega
  refine Spec.intro Try.func42 rfl Try.ntmps42 rfl fun w0 rest rs_ hrs_ => ?_
  simp only [List.cons_append, List.nil_append] at hrs_
  subst hrs_
  repeat (first | refine GC.seq ?_ | refine GC.region ?_)
  refine G.alloc rfl (fun rb => ?_)
  refine G.nil ?_
  refine GE.then_normal ?_
  refine GC.len (m := h.data.length) (c := dc) da fun ⟨hq1, hq2, hq3⟩ => ?_
  repeat ((fail_if_success (refine GC.draw (id := 4) (by kernel_rfl) (by kernel_rfl) ?_)); first | (apply G.ex (hd := rfl); case h => (first | exact Ex.move rfl | exact Ex.lss rfl rfl | exact Ex.gtr rfl rfl | exact Ex.pickF rfl (by first | assumption | omega) rfl)) | refine G.g_ff rfl rfl (by first | assumption | omega) ?_ | refine G.nil ?_ | (apply Gq.ex (hd := rfl); case h => (first | exact Ex.move rfl | exact Ex.nilCheck rfl | exact Ex.fieldB rfl | exact Ex.loadB rfl rfl | exact Ex.sub rfl rfl (by omega) | exact Ex.assign rfl | exact Ex.min rfl rfl)) | refine Gq.nil ?_ | refine GC.seq ?_ | refine GC.region ?_ | refine GC.draw (by kernel_rfl) (by kernel_rfl) ?_ | refine GC.skip ?_ | refine GE.then_normal ?_ | refine GC.cond_no rfl (by first | assumption | omega) ?_)
  refine GC.meet (ι := Option Addr × Nat × Nat) (fun _ => True) (fun x => [(0, .pointer (some (badr hb 0))), (4, .pointer (some (badr rb 0))), (5, .int .i64 (min n (h.done - h.taken))), (6, .pointer (some (badr x.2.2 0)))]) (fun x => [.blk x.2.2 73 [.int .i64 0, .int .i64 0, .int .i64 0, .slice none 0 0, .slice x.1 (E - T) x.2.1, .bool false], .vec 5 1 x.1 (E - T) x.2.1 (flat eB ((h.data.drop T).take (E - T))), .blk rb 73 [.int .i64 0, .int .i64 0, .int .i64 0, .slice none 0 0, .slice none 0 0, .bool false], .blk hb 81 [.int .i64 (h).room, .slice da (h).data.length dc, .int .i64 (h).done, .slice mo (h).more.length mc, .int .i64 (h).taken, .int .i64 (h).end_], .vec 5 1 da (h).data.length dc (flat eB (h).data)]) rest ?_ ?_
  · refine GC.drawA [] [.blk hb 81 [.int .i64 (h).room, .slice da (h).data.length dc, .int .i64 (h).done, .slice mo (h).more.length mc, .int .i64 (h).taken, .int .i64 (h).end_], .vec 5 1 da (h).data.length dc (flat eB (h).data)] (by repeat first | exact tn_ | apply td_ rfl | apply tc_ | exact .here | apply Take1.there) (by kernel_rfl) ?_
    first | (apply GA.take [] (hD := .inl rfl) (hsub := ⟨_, Takes.nil⟩) (i := 0) (hi := rfl) (hs := by kernel_rfl) (hfr := by kernel_rfl) (hr := by kernel_rfl) (hQ := np_) (hd := rfl); case hx => (first | exact Ex.move rfl))
    first | (apply GA.take [] (hD := .inl rfl) (hsub := ⟨_, Takes.nil⟩) (i := 1) (hi := rfl) (hs := by kernel_rfl) (hfr := by kernel_rfl) (hr := by kernel_rfl) (hQ := np_) (hd := rfl); case hx => (first | exact Ex.nilCheck rfl))
    first | (apply GA.take [] (hD := .inl rfl) (hsub := ⟨_, Takes.nil⟩) (i := 2) (hi := rfl) (hs := by kernel_rfl) (hfr := by kernel_rfl) (hr := by kernel_rfl) (hQ := np_) (hd := rfl); case hx => (first | exact Ex.fieldB rfl))
    first | (apply GA.take _ (hD := .inr ⟨rfl, by kernel_rfl⟩) (hsub := ⟨_, (by repeat first | exact tn_ | apply td_ rfl | apply tc_ | exact .here | apply Take1.there)⟩) (i := 3) (hi := rfl) (hs := by kernel_rfl) (hfr := by kernel_rfl) (hr := by kernel_rfl) (hQ := np_) (hd := rfl); case hx => (first | exact Ex.loadB rfl rfl))
    first | (apply GA.take [] (hD := .inl rfl) (hsub := ⟨_, Takes.nil⟩) (i := 4) (hi := rfl) (hs := by kernel_rfl) (hfr := by kernel_rfl) (hr := by kernel_rfl) (hQ := np_) (hd := rfl); case hx => (first | exact Ex.move rfl))
    first | (apply GA.take [] (hD := .inl rfl) (hsub := ⟨_, Takes.nil⟩) (i := 5) (hi := rfl) (hs := by kernel_rfl) (hfr := by kernel_rfl) (hr := by kernel_rfl) (hQ := np_) (hd := rfl); case hx => (first | exact Ex.nilCheck rfl))
    first | (apply GA.take [] (hD := .inl rfl) (hsub := ⟨_, Takes.nil⟩) (i := 6) (hi := rfl) (hs := by kernel_rfl) (hfr := by kernel_rfl) (hr := by kernel_rfl) (hQ := np_) (hd := rfl); case hx => (first | exact Ex.fieldB rfl))
    first | (apply GA.take _ (hD := .inr ⟨rfl, by kernel_rfl⟩) (hsub := ⟨_, (by repeat first | exact tn_ | apply td_ rfl | apply tc_ | exact .here | apply Take1.there)⟩) (i := 7) (hi := rfl) (hs := by kernel_rfl) (hfr := by kernel_rfl) (hr := by kernel_rfl) (hQ := np_) (hd := rfl); case hx => (first | exact Ex.loadB rfl rfl))
    first | (apply GA.take [] (hD := .inl rfl) (hsub := ⟨_, Takes.nil⟩) (i := 8) (hi := rfl) (hs := by kernel_rfl) (hfr := by kernel_rfl) (hr := by kernel_rfl) (hQ := np_) (hd := rfl); case hx => (first | exact Ex.move rfl))
    first | (apply GA.take [] (hD := .inl rfl) (hsub := ⟨_, Takes.nil⟩) (i := 9) (hi := rfl) (hs := by kernel_rfl) (hfr := by kernel_rfl) (hr := by kernel_rfl) (hQ := np_) (hd := rfl); case hx => (first | exact Ex.nilCheck rfl))
    first | (apply GA.take [] (hD := .inl rfl) (hsub := ⟨_, Takes.nil⟩) (i := 10) (hi := rfl) (hs := by kernel_rfl) (hfr := by kernel_rfl) (hr := by kernel_rfl) (hQ := np_) (hd := rfl); case hx => (first | exact Ex.fieldB rfl))
    first | (apply GA.take _ (hD := .inr ⟨rfl, by kernel_rfl⟩) (hsub := ⟨_, (by repeat first | exact tn_ | apply td_ rfl | apply tc_ | exact .here | apply Take1.there)⟩) (i := 11) (hi := rfl) (hs := by kernel_rfl) (hfr := by kernel_rfl) (hr := by kernel_rfl) (hQ := np_) (hd := rfl); case hx => (first | exact Ex.loadB rfl rfl))
    first | (apply GA.take [] (hD := .inl rfl) (hsub := ⟨_, Takes.nil⟩) (i := 12) (hi := rfl) (hs := by kernel_rfl) (hfr := by kernel_rfl) (hr := by kernel_rfl) (hQ := np_) (hd := rfl); case hx => (first | exact Ex.move rfl))
    first | (apply GA.take [] (hD := .inl rfl) (hsub := ⟨_, Takes.nil⟩) (i := 13) (hi := rfl) (hs := by kernel_rfl) (hfr := by kernel_rfl) (hr := by kernel_rfl) (hQ := np_) (hd := rfl); case hx => (first | exact Ex.add rfl rfl (by omega)))
    apply GA.take [] (hD := .inl rfl) (hsub := ⟨_, Takes.nil⟩) (i := 14) (hi := rfl) (hs := by kernel_rfl) (hfr := by kernel_rfl) (hr := by kernel_rfl) (hQ := np_) (hd := rfl) (hx := (Ex.slLH rfl (ev_int rfl hT) (ev_int rfl hE) ⟨hTE, by omega⟩))
    refine GA.two (i := 15) (j := 17) (by kernel_rfl) rfl rfl ?_ ?_
    · first | refine G.call (caps := []) (cloneB_sp (.vec 5 1 da (h).data.length dc (flat eB (h).data)) (hr := hRd) (subA da dc T 1) (E - T) (dc - T) ((h.data.drop T).take (E - T)) (by rw [← hX, hXl]) (by omega)) rfl rfl rfl rfl (by repeat first | exact tn_ | apply td_ rfl | apply tc_ | exact .here | apply Take1.there) ?_ | refine G.callU (caps := []) (cloneB_sp (.vec 5 1 da (h).data.length dc (flat eB (h).data)) (hr := hRd) (subA da dc T 1) (E - T) (dc - T) ((h.data.drop T).take (E - T)) (by rw [← hX, hXl]) (by omega)) rfl rfl rfl (by repeat first | exact tn_ | apply td_ rfl | apply tc_ | exact .here | apply Take1.there) ?_
      rintro v_ give_ ⟨xo, xc, rfl, rfl⟩ rs_ hrs_
      simp only [List.cons_append, List.nil_append] at hrs_
      subst hrs_
      try refine G.nil ?_
      refine GA.back (by first | exact .inl (by decide) | exact .inr ⟨_, (by repeat first | exact tn_ | apply td_ rfl | apply tc_ | exact .here | apply Take1.there)⟩) ?_
      first | (apply GA.take [] (hD := .inl rfl) (hsub := ⟨_, Takes.nil⟩) (i := 16) (hi := rfl) (hs := by kernel_rfl) (hfr := by kernel_rfl) (hr := by kernel_rfl) (hQ := np_) (hd := rfl); case hx => (first | exact Ex.build rfl rfl))
      refine GA.one (i := 17) (by kernel_rfl) rfl ?_
      refine G.alloc rfl (fun tb => ?_)
      try refine G.nil ?_
      refine GA.back (by first | exact .inl (by decide) | exact .inr ⟨_, (by repeat first | exact tn_ | apply td_ rfl | apply tc_ | exact .here | apply Take1.there)⟩) ?_
      refine GA.one (i := 18) (by kernel_rfl) rfl ?_
      first | refine G.storeBA rfl rfl rfl rfl rfl ?_
      try refine G.nil ?_
      refine GA.back (by first | exact .inl (by decide) | exact .inr ⟨_, (by repeat first | exact tn_ | apply td_ rfl | apply tc_ | exact .here | apply Take1.there)⟩) ?_
      refine GA.done (by kernel_rfl) ?_
      refine GE.meet (xo, xc, tb) trivial (by simp only [fits]; repeat (first | exact trivial | refine And.intro rfl ?_)) (by repeat first | exact tn_ | apply td_ rfl | apply tc_ | exact .here | apply Take1.there) (by repeat (first | exact Subs.refl | refine Subs.skip ?_))
    · refine G.alloc rfl (fun tb => ?_)
      try refine G.nil ?_
      refine GA.back (by first | exact .inl (by decide) | exact .inr ⟨_, (by repeat first | exact tn_ | apply td_ rfl | apply tc_ | exact .here | apply Take1.there)⟩) ?_
      refine GA.one (i := 15) (by kernel_rfl) rfl ?_
      first | refine G.call (caps := []) (cloneB_sp (.vec 5 1 da (h).data.length dc (flat eB (h).data)) (hr := hRd) (subA da dc T 1) (E - T) (dc - T) ((h.data.drop T).take (E - T)) (by rw [← hX, hXl]) (by omega)) rfl rfl rfl rfl (by repeat first | exact tn_ | apply td_ rfl | apply tc_ | exact .here | apply Take1.there) ?_ | refine G.callU (caps := []) (cloneB_sp (.vec 5 1 da (h).data.length dc (flat eB (h).data)) (hr := hRd) (subA da dc T 1) (E - T) (dc - T) ((h.data.drop T).take (E - T)) (by rw [← hX, hXl]) (by omega)) rfl rfl rfl (by repeat first | exact tn_ | apply td_ rfl | apply tc_ | exact .here | apply Take1.there) ?_
      rintro v_ give_ ⟨xo, xc, rfl, rfl⟩ rs_ hrs_
      simp only [List.cons_append, List.nil_append] at hrs_
      subst hrs_
      try refine G.nil ?_
      refine GA.back (by first | exact .inl (by decide) | exact .inr ⟨_, (by repeat first | exact tn_ | apply td_ rfl | apply tc_ | exact .here | apply Take1.there)⟩) ?_
      first | (apply GA.take [] (hD := .inl rfl) (hsub := ⟨_, Takes.nil⟩) (i := 16) (hi := rfl) (hs := by kernel_rfl) (hfr := by kernel_rfl) (hr := by kernel_rfl) (hQ := np_) (hd := rfl); case hx => (first | exact Ex.build rfl rfl))
      refine GA.one (i := 18) (by kernel_rfl) rfl ?_
      first | refine G.storeBA rfl rfl rfl rfl rfl ?_
      try refine G.nil ?_
      refine GA.back (by first | exact .inl (by decide) | exact .inr ⟨_, (by repeat first | exact tn_ | apply td_ rfl | apply tc_ | exact .here | apply Take1.there)⟩) ?_
      refine GA.done (by kernel_rfl) ?_
      refine GE.meet (xo, xc, tb) trivial (by simp only [fits]; repeat (first | exact trivial | refine And.intro rfl ?_)) (by repeat first | exact tn_ | apply td_ rfl | apply tc_ | exact .here | apply Take1.there) (by repeat (first | exact Subs.refl | refine Subs.skip ?_))
  rintro ⟨xo, xc, tb⟩ - fr_ rs_ hfr_ hrs_
  simp only [List.cons_append, List.nil_append] at hfr_ hrs_
  subst hfr_ hrs_
  have hmn : -9223372036854775808 ≤ h.taken + min n (h.done - h.taken) ∧ h.taken + min n (h.done - h.taken) ≤ 9223372036854775807 := by omega
  repeat (first | refine G.storeB rfl rfl rfl rfl rfl ?_ | (apply G.ex (hd := rfl); case h => (first | exact Ex.move rfl | exact Ex.nilCheck rfl | exact Ex.fieldB rfl | exact Ex.loadB rfl rfl | exact Ex.add rfl rfl (by omega))) | refine G.nil ?_ | refine GC.seq ?_ | refine GC.region ?_ | refine GE.then_normal ?_)
  refine GC.drawA [] [.blk hb 81 [.int .i64 h.room, .slice da h.data.length dc, .int .i64 h.done, .slice mo h.more.length mc, .int .i64 (h.taken + min n (h.done - h.taken)), .int .i64 h.end_]] (by repeat first | exact tn_ | apply td_ rfl | apply tc_ | exact .here | apply Take1.there) (by kernel_rfl) ?_
  first | (apply GA.take [] (hD := .inl rfl) (hsub := ⟨_, Takes.nil⟩) (i := 0) (hi := rfl) (hs := by kernel_rfl) (hfr := by kernel_rfl) (hr := by kernel_rfl) (hQ := np_) (hd := rfl); case hx => (first | exact Ex.move rfl))
  first | (apply GA.take [] (hD := .inl rfl) (hsub := ⟨_, Takes.nil⟩) (i := 1) (hi := rfl) (hs := by kernel_rfl) (hfr := by kernel_rfl) (hr := by kernel_rfl) (hQ := np_) (hd := rfl); case hx => (first | exact Ex.nilCheck rfl))
  first | (apply GA.take [] (hD := .inl rfl) (hsub := ⟨_, Takes.nil⟩) (i := 2) (hi := rfl) (hs := by kernel_rfl) (hfr := by kernel_rfl) (hr := by kernel_rfl) (hQ := np_) (hd := rfl); case hx => (first | exact Ex.fieldB rfl))
  first | (apply GA.take _ (hD := .inr ⟨rfl, by kernel_rfl⟩) (hsub := ⟨_, (by repeat first | exact tn_ | apply td_ rfl | apply tc_ | exact .here | apply Take1.there)⟩) (i := 3) (hi := rfl) (hs := by kernel_rfl) (hfr := by kernel_rfl) (hr := by kernel_rfl) (hQ := np_) (hd := rfl); case hx => (first | exact Ex.loadB rfl rfl))
  first | (apply GA.take [] (hD := .inl rfl) (hsub := ⟨_, Takes.nil⟩) (i := 4) (hi := rfl) (hs := by kernel_rfl) (hfr := by kernel_rfl) (hr := by kernel_rfl) (hQ := np_) (hd := rfl); case hx => (first | exact Ex.move rfl))
  first | (apply GA.take [] (hD := .inl rfl) (hsub := ⟨_, Takes.nil⟩) (i := 5) (hi := rfl) (hs := by kernel_rfl) (hfr := by kernel_rfl) (hr := by kernel_rfl) (hQ := np_) (hd := rfl); case hx => (first | exact Ex.nilCheck rfl))
  first | (apply GA.take [] (hD := .inl rfl) (hsub := ⟨_, Takes.nil⟩) (i := 6) (hi := rfl) (hs := by kernel_rfl) (hfr := by kernel_rfl) (hr := by kernel_rfl) (hQ := np_) (hd := rfl); case hx => (first | exact Ex.fieldB rfl))
  first | (apply GA.take _ (hD := .inr ⟨rfl, by kernel_rfl⟩) (hsub := ⟨_, (by repeat first | exact tn_ | apply td_ rfl | apply tc_ | exact .here | apply Take1.there)⟩) (i := 7) (hi := rfl) (hs := by kernel_rfl) (hfr := by kernel_rfl) (hr := by kernel_rfl) (hQ := np_) (hd := rfl); case hx => (first | exact Ex.loadB rfl rfl))
  first | (apply GA.take [] (hD := .inl rfl) (hsub := ⟨_, Takes.nil⟩) (i := 8) (hi := rfl) (hs := by kernel_rfl) (hfr := by kernel_rfl) (hr := by kernel_rfl) (hQ := np_) (hd := rfl); case hx => (first | exact Ex.eqI rfl rfl))
  first | (apply GA.take [] (hD := .inl rfl) (hsub := ⟨_, Takes.nil⟩) (i := 9) (hi := rfl) (hs := by kernel_rfl) (hfr := by kernel_rfl) (hr := by kernel_rfl) (hQ := np_) (hd := rfl); case hx => (first | exact Ex.fieldB rfl))
  refine GA.one (i := 10) (by kernel_rfl) rfl ?_
  first | refine G.storeB rfl rfl rfl rfl rfl ?_
  try refine G.nil ?_
  refine GA.back (by first | exact .inl (by decide) | exact .inr ⟨_, (by repeat first | exact tn_ | apply td_ rfl | apply tc_ | exact .here | apply Take1.there)⟩) ?_
  refine GA.done (by kernel_rfl) ?_
  first | refine G.frz xo ?_ | refine GC.frz xo ?_ | refine GE.frz xo ?_
  repeat (first | refine G.storeBA rfl rfl rfl rfl rfl ?_ | (apply G.ex (hd := rfl); case h => (first | exact Ex.loadBA rfl rfl rfl)) | refine G.nil ?_ | refine GC.seq ?_ | refine GC.region ?_ | refine GC.ret ?_ | refine GE.then_normal ?_)
  rw [← hX, ← hXl]
  refine GE.ret (by first | exact .inl rfl | exact .inr rfl) (resR1 Try.results42 (by first | exact RV.cell rfl (eP_len _) | exact RV.cell rfl rfl | exact RV.cell1 rfl)) ⟨xo, xc, rfl, rfl⟩ (by repeat first | exact tn_ | apply td_ rfl | apply tc_ | exact .here | apply Take1.there) (by repeat (first | exact Subs.refl | refine Subs.skip ?_))
end recv
end Go.Proofs.Ytcllddkhnbnigaa
