/-
  CONTRACTS of the wire's functions: Do$1 (who sends does a deed), send, reply, by the kit.
-/
import Derived.Test.YtcllddkhnbnigaaPipeA
namespace Go.Proofs.Ytcllddkhnbnigaa
open Go.RowKit
attribute [local irreducible] Ex G GC GE Gq FPost LPost
set_option linter.unusedVariables false
set_option linter.unusedSimpArgs false
namespace pipe
open hole
/-- where the wire lies -/
structure WM where
  sb : Nat
  hb : Nat
  da : Option Addr
  dc : Nat
  mo : Option Addr
  mc : Nat
  ea : Option Addr
  ec : Nat
  no_ : Option Addr
  nc : Nat
  fo : Option Addr
  fc : Nat
  FM : List FrM
def wR (wb : Nat) : WM → Wi → List Res
  | ⟨sb, hb, da, dc, mo, mc, ea, ec, no_, nc, fo, fc, FM⟩, w => [.blk wb 60 [.int .i64 ((w).first), .pointer (some (badr sb 0)), .pointer (some (badr hb 0)), .slice fo (FM).length fc], .vec 92 3 fo (FM).length fc (flat eFr (FM)), .own (Star ((FM).map rFr)), .blk sb 79 [.slice da ((w).se).data.length dc, .bool ((w).se).closed, .int .i64 ((w).se).done, .slice mo ((w).se).more.length mc, .int .i64 ((w).se).next, .int .i64 ((w).se).again, .int .i64 ((w).se).edge], .vec 5 1 da ((w).se).data.length dc (flat eB ((w).se).data), .sl mo ((w).se).more.length mc 2 (flat eR ((w).se).more), .blk hb 81 [.int .i64 ((w).he).room, .slice ea ((w).he).data.length ec, .int .i64 ((w).he).done, .slice no_ ((w).he).more.length nc, .int .i64 ((w).he).taken, .int .i64 ((w).he).end_], .vec 5 1 ea ((w).he).data.length ec (flat eB ((w).he).data), .sl no_ ((w).he).more.length nc 2 (flat eR ((w).he).more)]
structure MW (m : WM) (w : Wi) : Prop where
  fs : m.FM.map (·.f) = w.fs
  n : m.FM.length ≤ 1000
  b : ∀ x ∈ m.FM, x.f.bytes.length ≤ 1000
set_option maxHeartbeats 2000000 in
theorem own_sp (wb ub : Nat) (m : WM) (w : Wi) (hw : MW m w) (hk : send.SOk w.se) (d : send.DeM) (hd : send.MOk d) (rd rs : Res) [hrd : RdR rd d.d.ao d.d.n d.d.c 1 (flat eB d.d.l)] :
    Spec Try.prog 21 [.agg (send.eD d).toArray, .pointer (some (badr ub 0))] [.blk ub 51 [.pointer (some (badr wb 0))], .own (Star (wR wb m w)), .sl d.d.ao d.d.n d.d.c 1 (flat eB d.d.l), .sl d.sk.ao d.sk.n d.sk.c 2 (flat eR d.sk.l)]
      fun v give => ∃ m', MW m' (ownF w (send.toDe d)).1 ∧ v = .agg (ePa ⟨(ownF w (send.toDe d)).2, none, 0⟩).toArray ∧ give = [.blk ub 51 [.pointer (some (badr wb 0))], .own (Star (wR wb m' (ownF w (send.toDe d)).1))] := by
  obtain ⟨sb, hb, da, dc, mo, mc, ea, ec, no_, nc, fo, fc, FM⟩ := m
  have hdo := send.do_sp sb w.se hk d hd da dc mo mc
  obtain ⟨s1, t, hst⟩ : ∃ s1 t, send.doF w.se (send.toDe d) = (s1, t) := ⟨_, _, rfl⟩
  have hpl : ownF w (send.toDe d) = ({ w with se := s1 }, ⟨t.code, false, 0, [], false, t.left⟩) := by unfold ownF; rw [hst]
  rw [hst] at hdo
  rw [hpl]
  simp only at hdo
  refine Spec.intro Try.func21 rfl Try.ntmps21 rfl fun w0 rest rs_ hrs_ => ?_
  simp only [List.cons_append, List.nil_append] at hrs_
  subst hrs_
  refine GC.conv (rs' := _) (fun w_ H_ => Holds.starOuts (l := [.blk wb 60 [.int .i64 ((w).first), .pointer (some (badr sb 0)), .pointer (some (badr hb 0)), .slice fo (FM).length fc], .vec 92 3 fo (FM).length fc (flat eFr (FM)), .own (Star ((FM).map rFr)), .blk sb 79 [.slice da ((w).se).data.length dc, .bool ((w).se).closed, .int .i64 ((w).se).done, .slice mo ((w).se).more.length mc, .int .i64 ((w).se).next, .int .i64 ((w).se).again, .int .i64 ((w).se).edge], .vec 5 1 da ((w).se).data.length dc (flat eB ((w).se).data), .sl mo ((w).se).more.length mc 2 (flat eR ((w).se).more), .blk hb 81 [.int .i64 ((w).he).room, .slice ea ((w).he).data.length ec, .int .i64 ((w).he).done, .slice no_ ((w).he).more.length nc, .int .i64 ((w).he).taken, .int .i64 ((w).he).end_], .vec 5 1 ea ((w).he).data.length ec (flat eB ((w).he).data), .sl no_ ((w).he).more.length nc 2 (flat eR ((w).he).more)]) (H_.take (need := [.own (Star ([.blk wb 60 [.int .i64 ((w).first), .pointer (some (badr sb 0)), .pointer (some (badr hb 0)), .slice fo (FM).length fc], .vec 92 3 fo (FM).length fc (flat eFr (FM)), .own (Star ((FM).map rFr)), .blk sb 79 [.slice da ((w).se).data.length dc, .bool ((w).se).closed, .int .i64 ((w).se).done, .slice mo ((w).se).more.length mc, .int .i64 ((w).se).next, .int .i64 ((w).se).again, .int .i64 ((w).se).edge], .vec 5 1 da ((w).se).data.length dc (flat eB ((w).se).data), .sl mo ((w).se).more.length mc 2 (flat eR ((w).se).more), .blk hb 81 [.int .i64 ((w).he).room, .slice ea ((w).he).data.length ec, .int .i64 ((w).he).done, .slice no_ ((w).he).more.length nc, .int .i64 ((w).he).taken, .int .i64 ((w).he).end_], .vec 5 1 ea ((w).he).data.length ec (flat eB ((w).he).data), .sl no_ ((w).he).more.length nc 2 (flat eR ((w).he).more)]))]) (by repeat first | exact tn_ | apply td_ rfl | apply tc_ | exact .here | apply Take1.there))) ?_
  try simp only [List.append_eq, List.nil_append, List.cons_append]
  repeat (first | refine GC.seq ?_ | refine GC.region ?_)
  refine G.box rfl rfl rfl (fun tb => ?_)
  rw [show (Value.agg (send.eD d).toArray).cells.toList = send.eD d from rfl]
  repeat (first | fail)
  refine G.alloc rfl (fun rb => ?_)
  repeat (first | refine G.nil ?_ | refine GC.seq ?_ | refine GE.then_normal ?_)
  refine GC.drawA [] [.blk ub 51 [.pointer (some (badr wb 0))], .blk tb 63 (send.eD d), .blk wb 60 [.int .i64 ((w).first), .pointer (some (badr sb 0)), .pointer (some (badr hb 0)), .slice fo (FM).length fc]] (by repeat first | exact tn_ | apply td_ rfl | apply tc_ | exact .here | apply Take1.there) (by kernel_rfl) ?_
  first | (apply GA.take _ (hD := .inr ⟨rfl, by kernel_rfl⟩) (hsub := ⟨_, (by repeat first | exact tn_ | apply td_ rfl | apply tc_ | exact .here | apply Take1.there)⟩) (i := 0) (hi := rfl) (hs := by kernel_rfl) (hfr := by kernel_rfl) (hr := by kernel_rfl) (hQ := np_) (hd := rfl); case hx => (first | exact Ex.loadB rfl rfl))
  first | (apply GA.take [] (hD := .inl rfl) (hsub := ⟨_, Takes.nil⟩) (i := 1) (hi := rfl) (hs := by kernel_rfl) (hfr := by kernel_rfl) (hr := by kernel_rfl) (hQ := np_) (hd := rfl); case hx => (first | exact Ex.nilCheck rfl))
  first | (apply GA.take [] (hD := .inl rfl) (hsub := ⟨_, Takes.nil⟩) (i := 2) (hi := rfl) (hs := by kernel_rfl) (hfr := by kernel_rfl) (hr := by kernel_rfl) (hQ := np_) (hd := rfl); case hx => (first | exact Ex.fieldB rfl))
  first | (apply GA.take _ (hD := .inr ⟨rfl, by kernel_rfl⟩) (hsub := ⟨_, (by repeat first | exact tn_ | apply td_ rfl | apply tc_ | exact .here | apply Take1.there)⟩) (i := 3) (hi := rfl) (hs := by kernel_rfl) (hfr := by kernel_rfl) (hr := by kernel_rfl) (hQ := np_) (hd := rfl); case hx => (first | exact Ex.loadB rfl rfl))
  first | (apply GA.take _ (hD := .inr ⟨rfl, by kernel_rfl⟩) (hsub := ⟨_, (by repeat first | exact tn_ | apply td_ rfl | apply tc_ | exact .here | apply Take1.there)⟩) (i := 4) (hi := rfl) (hs := by kernel_rfl) (hfr := by kernel_rfl) (hr := by kernel_rfl) (hQ := np_) (hd := rfl); case hx => (first | exact Ex.loadBA rfl rfl rfl))
  refine GA.two (i := 5) (j := 6) (by kernel_rfl) rfl rfl ?_ ?_
  · rw [show List.take 5 (List.drop 0 (send.eD d)) = send.eD d from rfl]
    first | refine G.call (caps := []) (hdo) rfl rfl rfl rfl (by repeat first | exact tn_ | apply td_ rfl | apply tc_ | exact .here | apply Take1.there) ?_ | refine G.callU (caps := []) (hdo) rfl rfl rfl (by repeat first | exact tn_ | apply td_ rfl | apply tc_ | exact .here | apply Take1.there) ?_
    rintro v_ give_ ⟨da1, dc1, mo1, mc1, xo, xc, rfl, rfl⟩ rs_ hrs_
    simp only [List.cons_append, List.nil_append] at hrs_
    subst hrs_
    try refine G.nil ?_
    refine GA.back (by first | exact .inl (by decide) | exact .inr ⟨_, (by repeat first | exact tn_ | apply td_ rfl | apply tc_ | exact .here | apply Take1.there)⟩) ?_
    refine GA.one (i := 6) (by kernel_rfl) rfl ?_
    refine G.alloc rfl (fun qb => ?_)
    try refine G.nil ?_
    refine GA.back (by first | exact .inl (by decide) | exact .inr ⟨_, (by repeat first | exact tn_ | apply td_ rfl | apply tc_ | exact .here | apply Take1.there)⟩) ?_
    refine GA.one (i := 7) (by kernel_rfl) rfl ?_
    first | refine G.storeBA rfl rfl rfl rfl rfl ?_
    try refine G.nil ?_
    refine GA.back (by first | exact .inl (by decide) | exact .inr ⟨_, (by repeat first | exact tn_ | apply td_ rfl | apply tc_ | exact .here | apply Take1.there)⟩) ?_
    refine GA.done (by kernel_rfl) ?_
    repeat (first | refine G.storeBA rfl rfl rfl rfl rfl ?_ | (apply G.ex (hd := rfl); case h => (first | exact Ex.fieldB rfl | exact Ex.loadB rfl rfl | exact Ex.build rfl rfl)) | refine G.nil ?_ | refine GC.seq ?_ | refine GC.region ?_ | refine GC.ret ?_ | refine GE.then_normal ?_)
    refine GE.conv (rs' := _) (fun w_ H_ => Holds.starIns (l := [.blk wb 60 [.int .i64 ((w).first), .pointer (some (badr sb 0)), .pointer (some (badr hb 0)), .slice fo (FM).length fc], .vec 92 3 fo (FM).length fc (flat eFr (FM)), .own (Star ((FM).map rFr)), .blk sb 79 [.slice da1 (s1).data.length dc1, .bool (s1).closed, .int .i64 (s1).done, .slice mo1 (s1).more.length mc1, .int .i64 (s1).next, .int .i64 (s1).again, .int .i64 (s1).edge], .vec 5 1 da1 (s1).data.length dc1 (flat eB (s1).data), .sl mo1 (s1).more.length mc1 2 (flat eR (s1).more), .blk hb 81 [.int .i64 ((w).he).room, .slice ea ((w).he).data.length ec, .int .i64 ((w).he).done, .slice no_ ((w).he).more.length nc, .int .i64 ((w).he).taken, .int .i64 ((w).he).end_], .vec 5 1 ea ((w).he).data.length ec (flat eB ((w).he).data), .sl no_ ((w).he).more.length nc 2 (flat eR ((w).he).more)]) (H_.take (need := [.blk wb 60 [.int .i64 ((w).first), .pointer (some (badr sb 0)), .pointer (some (badr hb 0)), .slice fo (FM).length fc], .vec 92 3 fo (FM).length fc (flat eFr (FM)), .own (Star ((FM).map rFr)), .blk sb 79 [.slice da1 (s1).data.length dc1, .bool (s1).closed, .int .i64 (s1).done, .slice mo1 (s1).more.length mc1, .int .i64 (s1).next, .int .i64 (s1).again, .int .i64 (s1).edge], .vec 5 1 da1 (s1).data.length dc1 (flat eB (s1).data), .sl mo1 (s1).more.length mc1 2 (flat eR (s1).more), .blk hb 81 [.int .i64 ((w).he).room, .slice ea ((w).he).data.length ec, .int .i64 ((w).he).done, .slice no_ ((w).he).more.length nc, .int .i64 ((w).he).taken, .int .i64 ((w).he).end_], .vec 5 1 ea ((w).he).data.length ec (flat eB ((w).he).data), .sl no_ ((w).he).more.length nc 2 (flat eR ((w).he).more)]) (by repeat first | exact tn_ | apply td_ rfl | apply tc_ | exact .here | apply Take1.there))) ?_
    simp only [List.append_eq, List.nil_append, List.cons_append]
    refine GE.ret (by first | exact .inl rfl | exact .inr rfl) (resR1 Try.results21 (by first | exact RV.cell rfl (eP_len _) | exact RV.cell rfl rfl | exact RV.cell1 rfl)) ⟨⟨sb, hb, da1, dc1, mo1, mc1, ea, ec, no_, nc, fo, fc, FM⟩, ⟨hw.fs, hw.n, hw.b⟩, rfl, rfl⟩ (by repeat first | exact tn_ | apply td_ rfl | apply tc_ | exact .here | apply Take1.there) (by repeat (first | exact Subs.refl | refine Subs.skip ?_))
  · refine G.alloc rfl (fun qb => ?_)
    try refine G.nil ?_
    refine GA.back (by first | exact .inl (by decide) | exact .inr ⟨_, (by repeat first | exact tn_ | apply td_ rfl | apply tc_ | exact .here | apply Take1.there)⟩) ?_
    refine GA.one (i := 5) (by kernel_rfl) rfl ?_
    rw [show List.take 5 (List.drop 0 (send.eD d)) = send.eD d from rfl]
    first | refine G.call (caps := []) (hdo) rfl rfl rfl rfl (by repeat first | exact tn_ | apply td_ rfl | apply tc_ | exact .here | apply Take1.there) ?_ | refine G.callU (caps := []) (hdo) rfl rfl rfl (by repeat first | exact tn_ | apply td_ rfl | apply tc_ | exact .here | apply Take1.there) ?_
    rintro v_ give_ ⟨da1, dc1, mo1, mc1, xo, xc, rfl, rfl⟩ rs_ hrs_
    simp only [List.cons_append, List.nil_append] at hrs_
    subst hrs_
    try refine G.nil ?_
    refine GA.back (by first | exact .inl (by decide) | exact .inr ⟨_, (by repeat first | exact tn_ | apply td_ rfl | apply tc_ | exact .here | apply Take1.there)⟩) ?_
    refine GA.one (i := 7) (by kernel_rfl) rfl ?_
    first | refine G.storeBA rfl rfl rfl rfl rfl ?_
    try refine G.nil ?_
    refine GA.back (by first | exact .inl (by decide) | exact .inr ⟨_, (by repeat first | exact tn_ | apply td_ rfl | apply tc_ | exact .here | apply Take1.there)⟩) ?_
    refine GA.done (by kernel_rfl) ?_
    repeat (first | refine G.storeBA rfl rfl rfl rfl rfl ?_ | (apply G.ex (hd := rfl); case h => (first | exact Ex.fieldB rfl | exact Ex.loadB rfl rfl | exact Ex.build rfl rfl)) | refine G.nil ?_ | refine GC.seq ?_ | refine GC.region ?_ | refine GC.ret ?_ | refine GE.then_normal ?_)
    refine GE.conv (rs' := _) (fun w_ H_ => Holds.starIns (l := [.blk wb 60 [.int .i64 ((w).first), .pointer (some (badr sb 0)), .pointer (some (badr hb 0)), .slice fo (FM).length fc], .vec 92 3 fo (FM).length fc (flat eFr (FM)), .own (Star ((FM).map rFr)), .blk sb 79 [.slice da1 (s1).data.length dc1, .bool (s1).closed, .int .i64 (s1).done, .slice mo1 (s1).more.length mc1, .int .i64 (s1).next, .int .i64 (s1).again, .int .i64 (s1).edge], .vec 5 1 da1 (s1).data.length dc1 (flat eB (s1).data), .sl mo1 (s1).more.length mc1 2 (flat eR (s1).more), .blk hb 81 [.int .i64 ((w).he).room, .slice ea ((w).he).data.length ec, .int .i64 ((w).he).done, .slice no_ ((w).he).more.length nc, .int .i64 ((w).he).taken, .int .i64 ((w).he).end_], .vec 5 1 ea ((w).he).data.length ec (flat eB ((w).he).data), .sl no_ ((w).he).more.length nc 2 (flat eR ((w).he).more)]) (H_.take (need := [.blk wb 60 [.int .i64 ((w).first), .pointer (some (badr sb 0)), .pointer (some (badr hb 0)), .slice fo (FM).length fc], .vec 92 3 fo (FM).length fc (flat eFr (FM)), .own (Star ((FM).map rFr)), .blk sb 79 [.slice da1 (s1).data.length dc1, .bool (s1).closed, .int .i64 (s1).done, .slice mo1 (s1).more.length mc1, .int .i64 (s1).next, .int .i64 (s1).again, .int .i64 (s1).edge], .vec 5 1 da1 (s1).data.length dc1 (flat eB (s1).data), .sl mo1 (s1).more.length mc1 2 (flat eR (s1).more), .blk hb 81 [.int .i64 ((w).he).room, .slice ea ((w).he).data.length ec, .int .i64 ((w).he).done, .slice no_ ((w).he).more.length nc, .int .i64 ((w).he).taken, .int .i64 ((w).he).end_], .vec 5 1 ea ((w).he).data.length ec (flat eB ((w).he).data), .sl no_ ((w).he).more.length nc 2 (flat eR ((w).he).more)]) (by repeat first | exact tn_ | apply td_ rfl | apply tc_ | exact .here | apply Take1.there))) ?_
    simp only [List.append_eq, List.nil_append, List.cons_append]
    refine GE.ret (by first | exact .inl rfl | exact .inr rfl) (resR1 Try.results21 (by first | exact RV.cell rfl (eP_len _) | exact RV.cell rfl rfl | exact RV.cell1 rfl)) ⟨⟨sb, hb, da1, dc1, mo1, mc1, ea, ec, no_, nc, fo, fc, FM⟩, ⟨hw.fs, hw.n, hw.b⟩, rfl, rfl⟩ (by repeat first | exact tn_ | apply td_ rfl | apply tc_ | exact .here | apply Take1.there) (by repeat (first | exact Subs.refl | refine Subs.skip ?_))
set_option maxHeartbeats 4000000 in
theorem send_sp (wb : Nat) (m : WM) (w : Wi) (hw : MW m w) (hk : send.SOk w.se) (hf : 0 ≤ w.first ∧ w.first < 65536) (hn : m.FM.length ≤ 999) :
    Spec Try.prog 23 [.pointer (some (badr wb 0))] [.own (Star (wR wb m w))]
      fun v give => ∃ m', MW m' (sendF w).1 ∧ v = .agg (ePa ⟨(sendF w).2, none, 0⟩).toArray ∧ give = [.own (Star (wR wb m' (sendF w).1))] := by
  obtain ⟨sb, hb, da, dc, mo, mc, ea, ec, no_, nc, fo, fc, FM⟩ := m
  have hdo := send.do_sp sb w.se hk ⟨3, ⟨none, 0, 0, []⟩, 0, 0, ⟨none, 0, 0, []⟩⟩ ⟨by decide, rfl, rfl, by decide, by decide⟩ da dc mo mc
  have hpp := poll_piece (w := w) hk
  rw [show send.toDe ⟨3, ⟨none, 0, 0, []⟩, 0, 0, ⟨none, 0, 0, []⟩⟩ = .poll from rfl] at hdo
  unfold sendF
  obtain ⟨s1, t, hst⟩ : ∃ s1 t, send.doF w.se .poll = (s1, t) := ⟨_, _, rfl⟩
  rw [hst] at hdo hpp ⊢
  simp only at hdo hpp ⊢
  refine Spec.intro Try.func23 rfl Try.ntmps23 rfl fun w0 rest rs_ hrs_ => ?_
  simp only [List.cons_append, List.nil_append] at hrs_
  subst hrs_
  refine GC.conv (rs' := _) (fun w_ H_ => Holds.starOuts (l := [.blk wb 60 [.int .i64 ((w).first), .pointer (some (badr sb 0)), .pointer (some (badr hb 0)), .slice fo (FM).length fc], .vec 92 3 fo (FM).length fc (flat eFr (FM)), .own (Star ((FM).map rFr)), .blk sb 79 [.slice da ((w).se).data.length dc, .bool ((w).se).closed, .int .i64 ((w).se).done, .slice mo ((w).se).more.length mc, .int .i64 ((w).se).next, .int .i64 ((w).se).again, .int .i64 ((w).se).edge], .vec 5 1 da ((w).se).data.length dc (flat eB ((w).se).data), .sl mo ((w).se).more.length mc 2 (flat eR ((w).se).more), .blk hb 81 [.int .i64 ((w).he).room, .slice ea ((w).he).data.length ec, .int .i64 ((w).he).done, .slice no_ ((w).he).more.length nc, .int .i64 ((w).he).taken, .int .i64 ((w).he).end_], .vec 5 1 ea ((w).he).data.length ec (flat eB ((w).he).data), .sl no_ ((w).he).more.length nc 2 (flat eR ((w).he).more)]) (H_.take (need := [.own (Star ([.blk wb 60 [.int .i64 ((w).first), .pointer (some (badr sb 0)), .pointer (some (badr hb 0)), .slice fo (FM).length fc], .vec 92 3 fo (FM).length fc (flat eFr (FM)), .own (Star ((FM).map rFr)), .blk sb 79 [.slice da ((w).se).data.length dc, .bool ((w).se).closed, .int .i64 ((w).se).done, .slice mo ((w).se).more.length mc, .int .i64 ((w).se).next, .int .i64 ((w).se).again, .int .i64 ((w).se).edge], .vec 5 1 da ((w).se).data.length dc (flat eB ((w).se).data), .sl mo ((w).se).more.length mc 2 (flat eR ((w).se).more), .blk hb 81 [.int .i64 ((w).he).room, .slice ea ((w).he).data.length ec, .int .i64 ((w).he).done, .slice no_ ((w).he).more.length nc, .int .i64 ((w).he).taken, .int .i64 ((w).he).end_], .vec 5 1 ea ((w).he).data.length ec (flat eB ((w).he).data), .sl no_ ((w).he).more.length nc 2 (flat eR ((w).he).more)]))]) (by repeat first | exact tn_ | apply td_ rfl | apply tc_ | exact .here | apply Take1.there))) ?_
  try simp only [List.append_eq, List.nil_append, List.cons_append]
  repeat (first | refine GC.seq ?_ | refine GC.region ?_)
  refine G.alloc rfl (fun rb => ?_)
  repeat (first | (apply G.ex (hd := rfl); case h => (first | exact Ex.move rfl | exact Ex.nilCheck rfl | exact Ex.fieldB rfl | exact Ex.loadB rfl rfl | exact Ex.build rfl rfl)) | refine G.nil ?_ | refine GC.seq ?_ | refine GC.region ?_ | refine GE.then_normal ?_)
  refine G.nilsl 1 ?_
  refine G.nilsl 2 ?_
  first | refine G.call (caps := []) (hdo) rfl rfl rfl rfl (by repeat first | exact tn_ | apply td_ rfl | apply tc_ | exact .here | apply Take1.there) ?_ | refine G.callU (caps := []) (hdo) rfl rfl rfl (by repeat first | exact tn_ | apply td_ rfl | apply tc_ | exact .here | apply Take1.there) ?_
  rintro v_ give_ ⟨da1, dc1, mo1, mc1, xo, xc, rfl, rfl⟩ rs_ hrs_
  simp only [List.cons_append, List.nil_append] at hrs_
  subst hrs_
  refine G.alloc rfl (fun tb => ?_)
  repeat (first | refine G.storeBA rfl rfl rfl rfl rfl ?_ | (apply G.ex (hd := rfl); case h => (first | exact Ex.fieldB rfl | exact Ex.loadB rfl rfl)) | refine G.nil ?_ | refine GC.seq ?_ | refine GC.region ?_ | refine GE.then_normal ?_)
  obtain ⟨tc, tf, td, tfin, tag, ti, tl⟩ := t
  cases ti with
  | true =>
    rw [if_pos rfl]
    repeat (first | refine GC.seq ?_ | refine GC.region ?_ | refine GC.cond_t rfl ?_)
    first | refine G.call (caps := []) (no_sp 7) rfl rfl rfl rfl (by repeat first | exact tn_ | apply td_ rfl | apply tc_ | exact .here | apply Take1.there) ?_ | refine G.callU (caps := []) (no_sp 7) rfl rfl rfl (by repeat first | exact tn_ | apply td_ rfl | apply tc_ | exact .here | apply Take1.there) ?_
    rintro v_ give_ ⟨rfl, rfl⟩ rs_ hrs_
    simp only [List.cons_append, List.nil_append] at hrs_
    subst hrs_
    repeat (first | refine G.storeBA rfl rfl rfl rfl rfl ?_ | refine G.nil ?_ | refine GC.ret ?_ | refine GE.then_normal ?_ | refine GE.then_ret ?_)
    refine GE.conv (rs' := _) (fun w_ H_ => Holds.starIns (l := [.blk wb 60 [.int .i64 ((w).first), .pointer (some (badr sb 0)), .pointer (some (badr hb 0)), .slice fo (FM).length fc], .vec 92 3 fo (FM).length fc (flat eFr (FM)), .own (Star ((FM).map rFr)), .blk sb 79 [.slice da1 (s1).data.length dc1, .bool (s1).closed, .int .i64 (s1).done, .slice mo1 (s1).more.length mc1, .int .i64 (s1).next, .int .i64 (s1).again, .int .i64 (s1).edge], .vec 5 1 da1 (s1).data.length dc1 (flat eB (s1).data), .sl mo1 (s1).more.length mc1 2 (flat eR (s1).more), .blk hb 81 [.int .i64 ((w).he).room, .slice ea ((w).he).data.length ec, .int .i64 ((w).he).done, .slice no_ ((w).he).more.length nc, .int .i64 ((w).he).taken, .int .i64 ((w).he).end_], .vec 5 1 ea ((w).he).data.length ec (flat eB ((w).he).data), .sl no_ ((w).he).more.length nc 2 (flat eR ((w).he).more)]) (H_.take (need := [.blk wb 60 [.int .i64 ((w).first), .pointer (some (badr sb 0)), .pointer (some (badr hb 0)), .slice fo (FM).length fc], .vec 92 3 fo (FM).length fc (flat eFr (FM)), .own (Star ((FM).map rFr)), .blk sb 79 [.slice da1 (s1).data.length dc1, .bool (s1).closed, .int .i64 (s1).done, .slice mo1 (s1).more.length mc1, .int .i64 (s1).next, .int .i64 (s1).again, .int .i64 (s1).edge], .vec 5 1 da1 (s1).data.length dc1 (flat eB (s1).data), .sl mo1 (s1).more.length mc1 2 (flat eR (s1).more), .blk hb 81 [.int .i64 ((w).he).room, .slice ea ((w).he).data.length ec, .int .i64 ((w).he).done, .slice no_ ((w).he).more.length nc, .int .i64 ((w).he).taken, .int .i64 ((w).he).end_], .vec 5 1 ea ((w).he).data.length ec (flat eB ((w).he).data), .sl no_ ((w).he).more.length nc 2 (flat eR ((w).he).more)]) (by repeat first | exact tn_ | apply td_ rfl | apply tc_ | exact .here | apply Take1.there))) ?_
    simp only [List.append_eq, List.nil_append, List.cons_append]
    refine GE.ret (by first | exact .inl rfl | exact .inr rfl) (resR1 Try.results23 (by first | exact RV.cell rfl (eP_len _) | exact RV.cell rfl rfl | exact RV.cell1 rfl)) ⟨⟨sb, hb, da1, dc1, mo1, mc1, ea, ec, no_, nc, fo, fc, FM⟩, ⟨hw.fs, hw.n, hw.b⟩, rfl, rfl⟩ (by repeat first | exact tn_ | apply td_ rfl | apply tc_ | exact .here | apply Take1.there) (by repeat (first | exact Subs.refl | refine Subs.skip ?_))
  | false =>
    rw [if_neg (fun h => nomatch h)]
    obtain ⟨hr, h0, F, E, hF, hP⟩ := hpp (fun h => nomatch h)
    simp only at hF
    have hle := hP.le
    have hhi := hP.hi
    have hlen := hk.len
    have hmk := mark_sp wb w.first hf (.pointer (some (badr sb 0))) (.pointer (some (badr hb 0))) (.slice fo FM.length fc) tf (by omega)
    have heq : seg.eSg (segS w.first ⟨tc, tf, td, tfin, tag, false, tl⟩) none 0 xo xc = [.int .i64 (mk w.first tf), .int .i64 0, .int .i64 0, .bool false, .bool tfin, .bool false, .bool false, .slice none 0 0, .slice xo td.length xc] := by cases tfin <;> simp [seg.eSg, seg.sg, segS, seg.bt]
    have hput := put_sp wb (.int .i64 w.first) (.pointer (some (badr sb 0))) (.pointer (some (badr hb 0))) fo fc FM (by simp only at hn; omega) (segS w.first ⟨tc, tf, td, tfin, tag, false, tl⟩) hr h0 false (.sl none 0 0 2 []) (.sl xo td.length xc 1 (flat eB td)) none 0 xo xc (hr := RdR.sl) (hd := RdR.sl)
    rw [heq] at hput
    have hel := seg.enc_len (segS w.first ⟨tc, tf, td, tfin, tag, false, tl⟩)
    obtain ⟨q3, q64⟩ := seg.flt_len h0
    repeat (first | refine GC.seq ?_ | refine GC.skip ?_ | refine GE.then_normal ?_ | refine GC.cond_f rfl ?_)
    refine GC.drawA [] [.blk tb 65 (send.eT ⟨⟨tc, tf, td, tfin, tag, false, tl⟩, xo, xc⟩)] (by repeat first | exact tn_ | apply td_ rfl | apply tc_ | exact .here | apply Take1.there) (by kernel_rfl) ?_
    first | (apply GA.take [] (hD := .inl rfl) (hsub := ⟨_, Takes.nil⟩) (i := 0) (hi := rfl) (hs := by kernel_rfl) (hfr := by kernel_rfl) (hr := by kernel_rfl) (hQ := np_) (hd := rfl); case hx => (first | exact Ex.move rfl))
    first | (apply GA.take [] (hD := .inl rfl) (hsub := ⟨_, Takes.nil⟩) (i := 1) (hi := rfl) (hs := by kernel_rfl) (hfr := by kernel_rfl) (hr := by kernel_rfl) (hQ := np_) (hd := rfl); case hx => (first | exact Ex.move rfl))
    first | (apply GA.take [] (hD := .inl rfl) (hsub := ⟨_, Takes.nil⟩) (i := 2) (hi := rfl) (hs := by kernel_rfl) (hfr := by kernel_rfl) (hr := by kernel_rfl) (hQ := np_) (hd := rfl); case hx => (first | exact Ex.fieldB rfl))
    first | (apply GA.take _ (hD := .inr ⟨rfl, by kernel_rfl⟩) (hsub := ⟨_, (by repeat first | exact tn_ | apply td_ rfl | apply tc_ | exact .here | apply Take1.there)⟩) (i := 3) (hi := rfl) (hs := by kernel_rfl) (hfr := by kernel_rfl) (hr := by kernel_rfl) (hQ := np_) (hd := rfl); case hx => (first | exact Ex.loadB rfl rfl))
    first | (apply GA.take [] (hD := .inl rfl) (hsub := ⟨_, Takes.nil⟩) (i := 5) (hi := rfl) (hs := by kernel_rfl) (hfr := by kernel_rfl) (hr := by kernel_rfl) (hQ := np_) (hd := rfl); case hx => (first | exact Ex.fieldB rfl))
    first | (apply GA.take _ (hD := .inr ⟨rfl, by kernel_rfl⟩) (hsub := ⟨_, (by repeat first | exact tn_ | apply td_ rfl | apply tc_ | exact .here | apply Take1.there)⟩) (i := 6) (hi := rfl) (hs := by kernel_rfl) (hfr := by kernel_rfl) (hr := by kernel_rfl) (hQ := np_) (hd := rfl); case hx => (first | exact Ex.loadB rfl rfl))
    first | (apply GA.take [] (hD := .inl rfl) (hsub := ⟨_, Takes.nil⟩) (i := 7) (hi := rfl) (hs := by kernel_rfl) (hfr := by kernel_rfl) (hr := by kernel_rfl) (hQ := np_) (hd := rfl); case hx => (first | exact Ex.fieldB rfl))
    first | (apply GA.take _ (hD := .inr ⟨rfl, by kernel_rfl⟩) (hsub := ⟨_, (by repeat first | exact tn_ | apply td_ rfl | apply tc_ | exact .here | apply Take1.there)⟩) (i := 8) (hi := rfl) (hs := by kernel_rfl) (hfr := by kernel_rfl) (hr := by kernel_rfl) (hQ := np_) (hd := rfl); case hx => (first | exact Ex.loadB rfl rfl))
    first | (apply GA.take [] (hD := .inl rfl) (hsub := ⟨_, Takes.nil⟩) (i := 11) (hi := rfl) (hs := by kernel_rfl) (hfr := by kernel_rfl) (hr := by kernel_rfl) (hQ := np_) (hd := rfl); case hx => (first | exact Ex.fieldB rfl))
    first | (apply GA.take _ (hD := .inr ⟨rfl, by kernel_rfl⟩) (hsub := ⟨_, (by repeat first | exact tn_ | apply td_ rfl | apply tc_ | exact .here | apply Take1.there)⟩) (i := 12) (hi := rfl) (hs := by kernel_rfl) (hfr := by kernel_rfl) (hr := by kernel_rfl) (hQ := np_) (hd := rfl); case hx => (first | exact Ex.loadB rfl rfl))
    refine GA.one (i := 4) (by kernel_rfl) rfl ?_
    first | refine G.call (caps := []) (hmk) rfl rfl rfl rfl (by repeat first | exact tn_ | apply td_ rfl | apply tc_ | exact .here | apply Take1.there) ?_ | refine G.callU (caps := []) (hmk) rfl rfl rfl (by repeat first | exact tn_ | apply td_ rfl | apply tc_ | exact .here | apply Take1.there) ?_
    rintro v_ give_ ⟨rfl, rfl⟩ rs_ hrs_
    simp only [List.cons_append, List.nil_append] at hrs_
    subst hrs_
    try refine G.nil ?_
    refine GA.back (by first | exact .inl (by decide) | exact .inr ⟨_, (by repeat first | exact tn_ | apply td_ rfl | apply tc_ | exact .here | apply Take1.there)⟩) ?_
    first | (apply GA.take [] (hD := .inl rfl) (hsub := ⟨_, Takes.nil⟩) (i := 9) (hi := rfl) (hs := by kernel_rfl) (hfr := by kernel_rfl) (hr := by kernel_rfl) (hQ := np_) (hd := rfl); case hx => (first | exact Ex.build rfl rfl))
    refine GA.one (i := 10) (by kernel_rfl) rfl ?_
    first | refine G.call (caps := []) (hput) rfl rfl rfl rfl (by repeat first | exact tn_ | apply td_ rfl | apply tc_ | exact .here | apply Take1.there) ?_ | refine G.callU (caps := []) (hput) rfl rfl rfl (by repeat first | exact tn_ | apply td_ rfl | apply tc_ | exact .here | apply Take1.there) ?_
    rintro v_ give_ ⟨mm, fo', fc', hmm, rfl, rfl⟩ rs_ hrs_
    simp only [List.cons_append, List.nil_append] at hrs_
    subst hrs_
    try refine G.nil ?_
    refine GA.back (by first | exact .inl (by decide) | exact .inr ⟨_, (by repeat first | exact tn_ | apply td_ rfl | apply tc_ | exact .here | apply Take1.there)⟩) ?_
    first | (apply GA.take [] (hD := .inl rfl) (hsub := ⟨_, Takes.nil⟩) (i := 13) (hi := rfl) (hs := by kernel_rfl) (hfr := by kernel_rfl) (hr := by kernel_rfl) (hQ := np_) (hd := rfl); case hx => (first | exact Ex.build rfl rfl))
    refine GA.one (i := 14) (by kernel_rfl) rfl ?_
    first | refine G.storeBA rfl rfl rfl rfl rfl ?_
    try refine G.nil ?_
    refine GA.back (by first | exact .inl (by decide) | exact .inr ⟨_, (by repeat first | exact tn_ | apply td_ rfl | apply tc_ | exact .here | apply Take1.there)⟩) ?_
    refine GA.done (by kernel_rfl) ?_
    repeat (first | refine GC.ret ?_ | refine GE.then_normal ?_)
    refine GE.conv (rs' := _) (fun w_ H_ => Holds.starIns (l := [.blk wb 60 [.int .i64 ((w).first), .pointer (some (badr sb 0)), .pointer (some (badr hb 0)), .slice fo' (FM ++ [mm]).length fc'], .vec 92 3 fo' (FM ++ [mm]).length fc' (flat eFr (FM ++ [mm])), .own (Star ((FM ++ [mm]).map rFr)), .blk sb 79 [.slice da1 (s1).data.length dc1, .bool (s1).closed, .int .i64 (s1).done, .slice mo1 (s1).more.length mc1, .int .i64 (s1).next, .int .i64 (s1).again, .int .i64 (s1).edge], .vec 5 1 da1 (s1).data.length dc1 (flat eB (s1).data), .sl mo1 (s1).more.length mc1 2 (flat eR (s1).more), .blk hb 81 [.int .i64 ((w).he).room, .slice ea ((w).he).data.length ec, .int .i64 ((w).he).done, .slice no_ ((w).he).more.length nc, .int .i64 ((w).he).taken, .int .i64 ((w).he).end_], .vec 5 1 ea ((w).he).data.length ec (flat eB ((w).he).data), .sl no_ ((w).he).more.length nc 2 (flat eR ((w).he).more)]) (H_.take (need := [.blk wb 60 [.int .i64 ((w).first), .pointer (some (badr sb 0)), .pointer (some (badr hb 0)), .slice fo' (FM ++ [mm]).length fc'], .vec 92 3 fo' (FM ++ [mm]).length fc' (flat eFr (FM ++ [mm])), .own (Star ((FM ++ [mm]).map rFr)), .blk sb 79 [.slice da1 (s1).data.length dc1, .bool (s1).closed, .int .i64 (s1).done, .slice mo1 (s1).more.length mc1, .int .i64 (s1).next, .int .i64 (s1).again, .int .i64 (s1).edge], .vec 5 1 da1 (s1).data.length dc1 (flat eB (s1).data), .sl mo1 (s1).more.length mc1 2 (flat eR (s1).more), .blk hb 81 [.int .i64 ((w).he).room, .slice ea ((w).he).data.length ec, .int .i64 ((w).he).done, .slice no_ ((w).he).more.length nc, .int .i64 ((w).he).taken, .int .i64 ((w).he).end_], .vec 5 1 ea ((w).he).data.length ec (flat eB ((w).he).data), .sl no_ ((w).he).more.length nc 2 (flat eR ((w).he).more)]) (by repeat first | exact tn_ | apply td_ rfl | apply tc_ | exact .here | apply Take1.there))) ?_
    simp only [List.append_eq, List.nil_append, List.cons_append]
    have hlen2 : (FM.length : Int) = (w.fs.length : Int) := by rw [← hw.fs, List.length_map]
    rw [hlen2]
    refine GE.ret (by first | exact .inl rfl | exact .inr rfl) (resR1 Try.results23 (by first | exact RV.cell rfl (eP_len _) | exact RV.cell rfl rfl | exact RV.cell1 rfl)) ⟨⟨sb, hb, da1, dc1, mo1, mc1, ea, ec, no_, nc, fo', fc', FM ++ [mm]⟩, ⟨by show (FM ++ [mm]).map (·.f) = w.fs ++ [_]; rw [List.map_append, ← hw.fs, List.map_singleton, hmm], by show (FM ++ [mm]).length ≤ 1000; rw [List.length_append, List.length_singleton]; simp only at hn; omega, fun x hx => by rcases List.mem_append.1 hx with hx | hx; exact hw.b x hx; rw [List.mem_singleton] at hx; rw [hx, hmm]; show (seg.enc _).length ≤ 1000; omega⟩, rfl, rfl⟩ (by repeat first | exact tn_ | apply td_ rfl | apply tc_ | exact .here | apply Take1.there) (by repeat (first | exact Subs.refl | refine Subs.skip ?_))
end pipe
end Go.Proofs.Ytcllddkhnbnigaa
