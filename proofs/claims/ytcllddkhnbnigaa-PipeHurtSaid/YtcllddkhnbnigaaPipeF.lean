/-
  CONTRACTS of the wire's Do, New and Play, by the kit.
-/
import Derived.Test.YtcllddkhnbnigaaPipeE
namespace Go.Proofs.Ytcllddkhnbnigaa
open Go.RowKit
attribute [local irreducible] Ex G GC GE Gq FPost LPost
set_option linter.unusedVariables false
set_option linter.unusedSimpArgs false
namespace pipe
open hole
def toHo (m : HoM) : Ho := if m.kind = 1 then .give m.d.l else if m.kind = 2 then .shut else if m.kind = 3 then .send else if m.kind = 4 then .hit m.id m.at_ m.by_ else if m.kind = 5 then .carry m.id else if m.kind = 6 then .back m.id else if m.kind = 7 then .expire else .drain m.cnt
structure HMOk (m : HoM) : Prop where
  kind : 1 ≤ m.kind ∧ m.kind ≤ 8
  len : m.d.l.length = m.d.n
  lb : m.d.n ≤ 1000000
theorem hit_no (w : Wi) (id a : Int) (b : UInt8) : (hitF w id a b).2 = no (hitF w id a b).2.code := by
  unfold hitF
  repeat (first | rfl | split)
theorem send_nil (w : Wi) : (sendF w).2.data = [] := by
  unfold sendF
  split <;> rfl
theorem heard_nil (w : Wi) (id : Int) : (heardF w id).2.data = [] := by
  unfold heardF
  repeat (first | rfl | split)
set_option maxHeartbeats 16000000 in
theorem do_sp (wb : Nat) (m : WM) (w : Wi) (N : Nat) (hw : MW m w) (k : WOk w N) (hn : m.FM.length ≤ 999) (h : HoM) (hm : HMOk h) (hN : N + given (toHo h) ≤ 30000) (ho : HoOk (toHo h)) :
    Spec Try.prog 18 [.pointer (some (badr wb 0)), .agg (eHo h).toArray] [.own (Star (wR wb m w)), .sl h.d.ao h.d.n h.d.c 1 (flat eB h.d.l)]
      fun v give => ∃ m' yo yc, MW m' (doF w (toHo h)).1 ∧ v = .agg (ePa ⟨(doF w (toHo h)).2, yo, yc⟩).toArray ∧ give = [.own (Star (wR wb m' (doF w (toHo h)).1)), .sl yo (doF w (toHo h)).2.data.length yc 1 (flat eB (doF w (toHo h)).2.data)] := by
  obtain ⟨kind, d, id, at_, by_, cnt⟩ := h
  obtain ⟨⟨hk1, hk2⟩, hdl, hdn⟩ := hm
  simp only at hk1 hk2 hdl hdn
  have hN0 : N ≤ 30000 := by omega
  refine Spec.intro Try.func18 rfl Try.ntmps18 rfl fun w0 rest rs_ hrs_ => ?_
  simp only [List.cons_append, List.nil_append] at hrs_
  subst hrs_
  repeat (first | refine GC.seq ?_ | refine GC.region ?_)
  refine G.box rfl rfl rfl (fun ub => ?_)
  repeat (first | fail)
  refine G.box rfl rfl rfl (fun tb => ?_)
  rw [show (Value.agg (eHo ⟨kind, d, id, at_, by_, cnt⟩).toArray).cells.toList = eHo ⟨kind, d, id, at_, by_, cnt⟩ from rfl]
  refine G.alloc rfl (fun rb => ?_)
  repeat (first | (apply G.ex (hd := rfl); case h => (first | exact Ex.fieldB rfl | exact Ex.loadB rfl rfl | exact Ex.eqI rfl rfl | exact Ex.assign rfl | exact Ex.mkFunc rfl)) | refine G.nil ?_ | refine GC.seq ?_ | refine GC.region ?_ | refine GC.block ?_ | refine GE.then_normal ?_)
  rcases (show kind = 1 ∨ kind = 2 ∨ kind = 3 ∨ kind = 4 ∨ kind = 5 ∨ kind = 6 ∨ kind = 7 ∨ kind = 8 by omega) with rfl | rfl | rfl | rfl | rfl | rfl | rfl | rfl
  · rw [show toHo ⟨1, d, id, at_, by_, cnt⟩ = .give d.l from rfl]
    have own := own_sp wb ub m w hw k.se ⟨1, d, 0, 0, ⟨none, 0, 0, []⟩⟩ ⟨by simp only; omega, hdl, rfl, hdn, by simp only; omega⟩ (.sl d.ao d.n d.c 1 (flat eB d.l)) (.sl d.ao d.n d.c 1 (flat eB d.l))
    repeat (first | (apply G.ex (hd := rfl); case h => (first | exact Ex.move rfl | exact Ex.fieldB rfl | exact Ex.loadB rfl rfl | exact Ex.build rfl rfl)) | refine GC.seq ?_ | refine GC.region ?_ | refine GC.cond_t rfl ?_)
    refine G.nilsl 2 ?_
    first | refine G.call (own) rfl rfl rfl rfl (by repeat first | exact tn_ | apply td_ rfl | apply tc_ | exact .here | apply Take1.there) ?_ | refine G.callU (own) rfl rfl rfl (by repeat first | exact tn_ | apply td_ rfl | apply tc_ | exact .here | apply Take1.there) ?_
    rintro v_ give_ ⟨m', hm', rfl, rfl⟩ rs_ hrs_
    simp only [List.cons_append, List.nil_append] at hrs_
    subst hrs_
    repeat (first | refine G.storeBA rfl rfl rfl rfl rfl ?_ | refine G.nil ?_ | refine GC.ret ?_ | refine GE.then_normal ?_ | refine GE.then_ret ?_ | refine GE.block_ret ?_)
    refine GE.nilsl 1 ?_
    refine GE.ret (by first | exact .inl rfl | exact .inr rfl) (resR1 Try.results18 (by first | exact RV.cell rfl (eP_len _) | exact RV.cell rfl rfl | exact RV.cell1 rfl)) ⟨m', none, 0, hm', rfl, rfl⟩ (by repeat first | exact tn_ | apply td_ rfl | apply tc_ | exact .here | apply Take1.there) (by repeat (first | exact Subs.refl | refine Subs.skip ?_))
  · rw [show toHo ⟨2, d, id, at_, by_, cnt⟩ = .shut from rfl]
    have own := own_sp wb ub m w hw k.se ⟨5, ⟨none, 0, 0, []⟩, 0, 0, ⟨none, 0, 0, []⟩⟩ ⟨by simp only; omega, rfl, rfl, by simp only; omega, by simp only; omega⟩ (.sl none 0 0 1 []) (.sl none 0 0 1 []) (hrd := RdR.sl)
    repeat (first | (apply G.ex (hd := rfl); case h => (first | exact Ex.move rfl | exact Ex.eqI rfl rfl | exact Ex.assign rfl | exact Ex.build rfl rfl)) | refine G.nil ?_ | refine GC.seq ?_ | refine GC.region ?_ | refine GE.then_normal ?_ | refine GC.cond_t rfl ?_ | refine GC.cond_f rfl ?_)
    refine G.nilsl 2 ?_
    refine G.nilsl 1 ?_
    first | refine G.call (own) rfl rfl rfl rfl (by repeat first | exact tn_ | apply td_ rfl | apply tc_ | exact .here | apply Take1.there) ?_ | refine G.callU (own) rfl rfl rfl (by repeat first | exact tn_ | apply td_ rfl | apply tc_ | exact .here | apply Take1.there) ?_
    rintro v_ give_ ⟨m', hm', rfl, rfl⟩ rs_ hrs_
    simp only [List.cons_append, List.nil_append] at hrs_
    subst hrs_
    repeat (first | refine G.storeBA rfl rfl rfl rfl rfl ?_ | refine G.nil ?_ | refine GC.ret ?_ | refine GE.then_normal ?_ | refine GE.then_ret ?_ | refine GE.block_ret ?_)
    refine GE.nilsl 1 ?_
    refine GE.ret (by first | exact .inl rfl | exact .inr rfl) (resR1 Try.results18 (by first | exact RV.cell rfl (eP_len _) | exact RV.cell rfl rfl | exact RV.cell1 rfl)) ⟨m', none, 0, hm', rfl, rfl⟩ (by repeat first | exact tn_ | apply td_ rfl | apply tc_ | exact .here | apply Take1.there) (by repeat (first | exact Subs.refl | refine Subs.skip ?_))
  · rw [show toHo ⟨3, d, id, at_, by_, cnt⟩ = .send from rfl]
    have hs := send_sp wb m w hw k.se k.f hn
    repeat (first | (apply G.ex (hd := rfl); case h => (first | exact Ex.loadB rfl rfl | exact Ex.eqI rfl rfl | exact Ex.assign rfl)) | refine G.nil ?_ | refine GC.seq ?_ | refine GC.region ?_ | refine GE.then_normal ?_ | refine GC.cond_t rfl ?_ | refine GC.cond_f rfl ?_)
    first | refine G.call (caps := []) (hs) rfl rfl rfl rfl (by repeat first | exact tn_ | apply td_ rfl | apply tc_ | exact .here | apply Take1.there) ?_ | refine G.callU (caps := []) (hs) rfl rfl rfl (by repeat first | exact tn_ | apply td_ rfl | apply tc_ | exact .here | apply Take1.there) ?_
    rintro v_ give_ ⟨m', hm', rfl, rfl⟩ rs_ hrs_
    simp only [List.cons_append, List.nil_append] at hrs_
    subst hrs_
    repeat (first | refine G.storeBA rfl rfl rfl rfl rfl ?_ | refine G.nil ?_ | refine GC.ret ?_ | refine GE.then_normal ?_ | refine GE.then_ret ?_ | refine GE.block_ret ?_)
    refine GE.nilsl 1 ?_
    rw [show Res.sl none 0 0 1 [] = Res.sl none (doF w .send).2.data.length 0 1 (flat eB (doF w .send).2.data) by rw [show (doF w .send).2.data = [] from send_nil w]; rfl]
    refine GE.ret (by first | exact .inl rfl | exact .inr rfl) (resR1 Try.results18 (by first | exact RV.cell rfl (eP_len _) | exact RV.cell rfl rfl | exact RV.cell1 rfl)) ⟨m', none, 0, hm', rfl, rfl⟩ (by repeat first | exact tn_ | apply td_ rfl | apply tc_ | exact .here | apply Take1.there) (by repeat (first | exact Subs.refl | refine Subs.skip ?_))
  · rw [show toHo ⟨4, d, id, at_, by_, cnt⟩ = .hit id at_ by_ from rfl]
    have hs := hit_sp wb m w hw ⟨4, d, id, at_, by_, cnt⟩
    simp only at hs
    repeat (first | (apply G.ex (hd := rfl); case h => (first | exact Ex.loadB rfl rfl | exact Ex.eqI rfl rfl | exact Ex.assign rfl | exact Ex.loadBA rfl rfl rfl)) | refine G.nil ?_ | refine GC.seq ?_ | refine GC.region ?_ | refine GE.then_normal ?_ | refine GC.cond_t rfl ?_ | refine GC.cond_f rfl ?_)
    first | refine G.call (caps := []) (hs) rfl rfl rfl rfl (by repeat first | exact tn_ | apply td_ rfl | apply tc_ | exact .here | apply Take1.there) ?_ | refine G.callU (caps := []) (hs) rfl rfl rfl (by repeat first | exact tn_ | apply td_ rfl | apply tc_ | exact .here | apply Take1.there) ?_
    rintro v_ give_ ⟨m', hm', rfl, rfl⟩ rs_ hrs_
    simp only [List.cons_append, List.nil_append] at hrs_
    subst hrs_
    first | refine G.call (caps := []) (no_sp (hitF w id at_ by_).2.code) rfl rfl rfl rfl (by repeat first | exact tn_ | apply td_ rfl | apply tc_ | exact .here | apply Take1.there) ?_ | refine G.callU (caps := []) (no_sp (hitF w id at_ by_).2.code) rfl rfl rfl (by repeat first | exact tn_ | apply td_ rfl | apply tc_ | exact .here | apply Take1.there) ?_
    rintro v_ give_ ⟨rfl, rfl⟩ rs_ hrs_
    simp only [List.cons_append, List.nil_append] at hrs_
    subst hrs_
    rw [← hit_no]
    repeat (first | refine G.storeBA rfl rfl rfl rfl rfl ?_ | refine G.nil ?_ | refine GC.ret ?_ | refine GE.then_normal ?_ | refine GE.then_ret ?_ | refine GE.block_ret ?_)
    refine GE.nilsl 1 ?_
    rw [show Res.sl none 0 0 1 [] = Res.sl none (doF w (.hit id at_ by_)).2.data.length 0 1 (flat eB (doF w (.hit id at_ by_)).2.data) by rw [show (doF w (.hit id at_ by_)).2.data = [] from by show (hitF w id at_ by_).2.data = []; rw [hit_no]; rfl]; rfl]
    refine GE.ret (by first | exact .inl rfl | exact .inr rfl) (resR1 Try.results18 (by first | exact RV.cell rfl (eP_len _) | exact RV.cell rfl rfl | exact RV.cell1 rfl)) ⟨m', none, 0, hm', rfl, rfl⟩ (by repeat first | exact tn_ | apply td_ rfl | apply tc_ | exact .here | apply Take1.there) (by repeat (first | exact Subs.refl | refine Subs.skip ?_))
  · rw [show toHo ⟨5, d, id, at_, by_, cnt⟩ = .carry id from rfl]
    have hs := carry_sp wb m w N hw k hN0 hn id
    repeat (first | (apply G.ex (hd := rfl); case h => (first | exact Ex.fieldB rfl | exact Ex.loadB rfl rfl | exact Ex.eqI rfl rfl | exact Ex.assign rfl)) | refine G.nil ?_ | refine GC.seq ?_ | refine GC.region ?_ | refine GE.then_normal ?_ | refine GC.cond_t rfl ?_ | refine GC.cond_f rfl ?_)
    first | refine G.call (caps := []) (hs) rfl rfl rfl rfl (by repeat first | exact tn_ | apply td_ rfl | apply tc_ | exact .here | apply Take1.there) ?_ | refine G.callU (caps := []) (hs) rfl rfl rfl (by repeat first | exact tn_ | apply td_ rfl | apply tc_ | exact .here | apply Take1.there) ?_
    rintro v_ give_ ⟨m', yo, yc, hm', rfl, rfl⟩ rs_ hrs_
    simp only [List.cons_append, List.nil_append] at hrs_
    subst hrs_
    repeat (first | refine G.storeBA rfl rfl rfl rfl rfl ?_ | refine G.nil ?_ | refine GC.ret ?_ | refine GE.then_normal ?_ | refine GE.then_ret ?_ | refine GE.block_ret ?_)
    refine GE.ret (by first | exact .inl rfl | exact .inr rfl) (resR1 Try.results18 (by first | exact RV.cell rfl (eP_len _) | exact RV.cell rfl rfl | exact RV.cell1 rfl)) ⟨m', yo, yc, hm', rfl, rfl⟩ (by repeat first | exact tn_ | apply td_ rfl | apply tc_ | exact .here | apply Take1.there) (by repeat (first | exact Subs.refl | refine Subs.skip ?_))
  · rw [show toHo ⟨6, d, id, at_, by_, cnt⟩ = .back id from rfl]
    have hs := back_sp wb m w N hw k hN0 id
    repeat (first | (apply G.ex (hd := rfl); case h => (first | exact Ex.fieldB rfl | exact Ex.loadB rfl rfl | exact Ex.eqI rfl rfl | exact Ex.assign rfl)) | refine G.nil ?_ | refine GC.seq ?_ | refine GC.region ?_ | refine GE.then_normal ?_ | refine GC.cond_t rfl ?_ | refine GC.cond_f rfl ?_)
    first | refine G.call (caps := []) (hs) rfl rfl rfl rfl (by repeat first | exact tn_ | apply td_ rfl | apply tc_ | exact .here | apply Take1.there) ?_ | refine G.callU (caps := []) (hs) rfl rfl rfl (by repeat first | exact tn_ | apply td_ rfl | apply tc_ | exact .here | apply Take1.there) ?_
    rintro v_ give_ ⟨m', hm', rfl, rfl⟩ rs_ hrs_
    simp only [List.cons_append, List.nil_append] at hrs_
    subst hrs_
    repeat (first | refine G.storeBA rfl rfl rfl rfl rfl ?_ | refine G.nil ?_ | refine GC.ret ?_ | refine GE.then_normal ?_ | refine GE.then_ret ?_ | refine GE.block_ret ?_)
    refine GE.nilsl 1 ?_
    rw [show Res.sl none 0 0 1 [] = Res.sl none (doF w (.back id)).2.data.length 0 1 (flat eB (doF w (.back id)).2.data) by rw [show (doF w (.back id)).2.data = [] from heard_nil w id]; rfl]
    refine GE.ret (by first | exact .inl rfl | exact .inr rfl) (resR1 Try.results18 (by first | exact RV.cell rfl (eP_len _) | exact RV.cell rfl rfl | exact RV.cell1 rfl)) ⟨m', none, 0, hm', rfl, rfl⟩ (by repeat first | exact tn_ | apply td_ rfl | apply tc_ | exact .here | apply Take1.there) (by repeat (first | exact Subs.refl | refine Subs.skip ?_))
  · rw [show toHo ⟨7, d, id, at_, by_, cnt⟩ = .expire from rfl]
    have own := own_sp wb ub m w hw k.se ⟨4, ⟨none, 0, 0, []⟩, 0, 0, ⟨none, 0, 0, []⟩⟩ ⟨by simp only; omega, rfl, rfl, by simp only; omega, by simp only; omega⟩ (.sl none 0 0 1 []) (.sl none 0 0 1 []) (hrd := RdR.sl)
    repeat (first | (apply G.ex (hd := rfl); case h => (first | exact Ex.move rfl | exact Ex.eqI rfl rfl | exact Ex.assign rfl | exact Ex.build rfl rfl)) | refine G.nil ?_ | refine GC.seq ?_ | refine GC.region ?_ | refine GE.then_normal ?_ | refine GC.cond_t rfl ?_ | refine GC.cond_f rfl ?_)
    refine G.nilsl 2 ?_
    refine G.nilsl 1 ?_
    first | refine G.call (own) rfl rfl rfl rfl (by repeat first | exact tn_ | apply td_ rfl | apply tc_ | exact .here | apply Take1.there) ?_ | refine G.callU (own) rfl rfl rfl (by repeat first | exact tn_ | apply td_ rfl | apply tc_ | exact .here | apply Take1.there) ?_
    rintro v_ give_ ⟨m', hm', rfl, rfl⟩ rs_ hrs_
    simp only [List.cons_append, List.nil_append] at hrs_
    subst hrs_
    repeat (first | refine G.storeBA rfl rfl rfl rfl rfl ?_ | refine G.nil ?_ | refine GC.ret ?_ | refine GE.then_normal ?_ | refine GE.then_ret ?_ | refine GE.block_ret ?_)
    refine GE.nilsl 1 ?_
    refine GE.ret (by first | exact .inl rfl | exact .inr rfl) (resR1 Try.results18 (by first | exact RV.cell rfl (eP_len _) | exact RV.cell rfl rfl | exact RV.cell1 rfl)) ⟨m', none, 0, hm', rfl, rfl⟩ (by repeat first | exact tn_ | apply td_ rfl | apply tc_ | exact .here | apply Take1.there) (by repeat (first | exact Subs.refl | refine Subs.skip ?_))
  · rw [show toHo ⟨8, d, id, at_, by_, cnt⟩ = .drain cnt from rfl] at ho ⊢
    obtain ⟨k1, t1, ao1⟩ := k.hear hN0 (a := .take cnt) ho
    have num := recv.said_num k.he.ok ao1
    obtain ⟨sb, hb, da, dc, mo, mc, ea, ec, no_, nc, fo, fc, FM⟩ := m
    have hdo := recv.do_sp hb w.he k.he.ok ⟨2, 0, ⟨none, 0, 0, []⟩, false, cnt⟩ ⟨.inr rfl, rfl⟩ ao1 ea ec no_ nc
    rw [show recv.toAr ⟨2, 0, ⟨none, 0, 0, []⟩, false, cnt⟩ = .take cnt from rfl] at hdo
    have hpl : doF w (.drain cnt) = replyF { w with he := (recv.doF w.he (.take cnt)).1 } (recv.doF w.he (.take cnt)).2 := rfl
    obtain ⟨h1, t, hst⟩ : ∃ h1 t, recv.doF w.he (.take cnt) = (h1, t) := ⟨_, _, rfl⟩
    rw [hst] at hdo k1 t1 num hpl
    rw [hpl]
    simp only at hdo k1 t1 num ⊢
    refine GC.conv (rs' := _) (fun w_ H_ => Holds.starOuts (l := [.blk wb 60 [.int .i64 ((w).first), .pointer (some (badr sb 0)), .pointer (some (badr hb 0)), .slice fo (FM).length fc], .vec 92 3 fo (FM).length fc (flat eFr (FM)), .own (Star ((FM).map rFr)), .blk sb 79 [.slice da ((w).se).data.length dc, .bool ((w).se).closed, .int .i64 ((w).se).done, .slice mo ((w).se).more.length mc, .int .i64 ((w).se).next, .int .i64 ((w).se).again, .int .i64 ((w).se).edge], .vec 5 1 da ((w).se).data.length dc (flat eB ((w).se).data), .sl mo ((w).se).more.length mc 2 (flat eR ((w).se).more), .blk hb 81 [.int .i64 ((w).he).room, .slice ea ((w).he).data.length ec, .int .i64 ((w).he).done, .slice no_ ((w).he).more.length nc, .int .i64 ((w).he).taken, .int .i64 ((w).he).end_], .vec 5 1 ea ((w).he).data.length ec (flat eB ((w).he).data), .sl no_ ((w).he).more.length nc 2 (flat eR ((w).he).more)]) (H_.take (need := [.own (Star ([.blk wb 60 [.int .i64 ((w).first), .pointer (some (badr sb 0)), .pointer (some (badr hb 0)), .slice fo (FM).length fc], .vec 92 3 fo (FM).length fc (flat eFr (FM)), .own (Star ((FM).map rFr)), .blk sb 79 [.slice da ((w).se).data.length dc, .bool ((w).se).closed, .int .i64 ((w).se).done, .slice mo ((w).se).more.length mc, .int .i64 ((w).se).next, .int .i64 ((w).se).again, .int .i64 ((w).se).edge], .vec 5 1 da ((w).se).data.length dc (flat eB ((w).se).data), .sl mo ((w).se).more.length mc 2 (flat eR ((w).se).more), .blk hb 81 [.int .i64 ((w).he).room, .slice ea ((w).he).data.length ec, .int .i64 ((w).he).done, .slice no_ ((w).he).more.length nc, .int .i64 ((w).he).taken, .int .i64 ((w).he).end_], .vec 5 1 ea ((w).he).data.length ec (flat eB ((w).he).data), .sl no_ ((w).he).more.length nc 2 (flat eR ((w).he).more)]))]) (by repeat first | exact tn_ | apply td_ rfl | apply tc_ | exact .here | apply Take1.there))) ?_
    try simp only [List.append_eq, List.nil_append, List.cons_append]
    repeat (first | (apply G.ex (hd := rfl); case h => (first | exact Ex.eqI rfl rfl | exact Ex.assign rfl)) | refine G.nil ?_ | refine GC.seq ?_ | refine GC.region ?_ | refine GE.then_normal ?_ | refine GC.cond_yes rfl (by first | assumption | omega) ?_ | refine GC.cond_no rfl (by first | assumption | omega) ?_)
    refine GC.nilsl 1 ?_
    refine GC.meet (ι := Nat × (Option Addr × Nat) × (Option Addr × Nat) × (Option Addr × Nat) × (Option Addr × Nat)) (fun _ => True) (fun x => [(2, .pointer (some (badr ub 0))), (3, .pointer (some (badr tb 0))), (4, .pointer (some (badr rb 0))), (6, .pointer (some (badr x.1 0)))]) (fun x => [.blk x.1 73 (recv.eTo ⟨t, x.2.2.2.1.1, x.2.2.2.1.2, x.2.2.2.2.1, x.2.2.2.2.2⟩), .sl x.2.2.2.1.1 t.sacks.length x.2.2.2.1.2 2 (flat eR t.sacks), .sl x.2.2.2.2.1 t.data.length x.2.2.2.2.2 1 (flat eB t.data), .blk ub 51 [.pointer (some (badr wb 0))], .blk rb 39 [.int .i64 0, .bool false, .int .i64 0, .slice none 0 0, .bool false, .int .i64 0], .blk wb 60 [.int .i64 ((w).first), .pointer (some (badr sb 0)), .pointer (some (badr hb 0)), .slice fo (FM).length fc], .vec 92 3 fo (FM).length fc (flat eFr (FM)), .own (Star ((FM).map rFr)), .blk sb 79 [.slice da ((w).se).data.length dc, .bool ((w).se).closed, .int .i64 ((w).se).done, .slice mo ((w).se).more.length mc, .int .i64 ((w).se).next, .int .i64 ((w).se).again, .int .i64 ((w).se).edge], .vec 5 1 da ((w).se).data.length dc (flat eB ((w).se).data), .sl mo ((w).se).more.length mc 2 (flat eR ((w).se).more), .blk hb 81 [.int .i64 (h1).room, .slice x.2.1.1 (h1).data.length x.2.1.2, .int .i64 (h1).done, .slice x.2.2.1.1 (h1).more.length x.2.2.1.2, .int .i64 (h1).taken, .int .i64 (h1).end_], .vec 5 1 x.2.1.1 (h1).data.length x.2.1.2 (flat eB (h1).data), .sl x.2.2.1.1 (h1).more.length x.2.2.1.2 2 (flat eR (h1).more)]) rest ?_ ?_
    · refine GC.drawA [] [.blk ub 51 [.pointer (some (badr wb 0))], .blk tb 36 (eHo ⟨8, d, id, at_, by_, cnt⟩), .blk wb 60 [.int .i64 (w.first), .pointer (some (badr sb 0)), .pointer (some (badr hb 0)), .slice fo (FM).length fc]] (by repeat first | exact tn_ | apply td_ rfl | apply tc_ | exact .here | apply Take1.there) (by kernel_rfl) ?_
      first | (apply GA.take _ (hD := .inr ⟨rfl, by kernel_rfl⟩) (hsub := ⟨_, (by repeat first | exact tn_ | apply td_ rfl | apply tc_ | exact .here | apply Take1.there)⟩) (i := 0) (hi := rfl) (hs := by kernel_rfl) (hfr := by kernel_rfl) (hr := by kernel_rfl) (hQ := np_) (hd := rfl); case hx => (first | exact Ex.loadB rfl rfl))
      first | (apply GA.take [] (hD := .inl rfl) (hsub := ⟨_, Takes.nil⟩) (i := 1) (hi := rfl) (hs := by kernel_rfl) (hfr := by kernel_rfl) (hr := by kernel_rfl) (hQ := np_) (hd := rfl); case hx => (first | exact Ex.nilCheck rfl))
      first | (apply GA.take [] (hD := .inl rfl) (hsub := ⟨_, Takes.nil⟩) (i := 2) (hi := rfl) (hs := by kernel_rfl) (hfr := by kernel_rfl) (hr := by kernel_rfl) (hQ := np_) (hd := rfl); case hx => (first | exact Ex.fieldB rfl))
      first | (apply GA.take _ (hD := .inr ⟨rfl, by kernel_rfl⟩) (hsub := ⟨_, (by repeat first | exact tn_ | apply td_ rfl | apply tc_ | exact .here | apply Take1.there)⟩) (i := 3) (hi := rfl) (hs := by kernel_rfl) (hfr := by kernel_rfl) (hr := by kernel_rfl) (hQ := np_) (hd := rfl); case hx => (first | exact Ex.loadB rfl rfl))
      first | (apply GA.take [] (hD := .inl rfl) (hsub := ⟨_, Takes.nil⟩) (i := 4) (hi := rfl) (hs := by kernel_rfl) (hfr := by kernel_rfl) (hr := by kernel_rfl) (hQ := np_) (hd := rfl); case hx => (first | exact Ex.fieldB rfl))
      first | (apply GA.take _ (hD := .inr ⟨rfl, by kernel_rfl⟩) (hsub := ⟨_, (by repeat first | exact tn_ | apply td_ rfl | apply tc_ | exact .here | apply Take1.there)⟩) (i := 5) (hi := rfl) (hs := by kernel_rfl) (hfr := by kernel_rfl) (hr := by kernel_rfl) (hQ := np_) (hd := rfl); case hx => (first | exact Ex.loadB rfl rfl))
      first | (apply GA.take [] (hD := .inl rfl) (hsub := ⟨_, Takes.nil⟩) (i := 6) (hi := rfl) (hs := by kernel_rfl) (hfr := by kernel_rfl) (hr := by kernel_rfl) (hQ := np_) (hd := rfl); case hx => (first | exact Ex.build rfl rfl))
      refine GA.two (i := 7) (j := 8) (by kernel_rfl) rfl rfl ?_ ?_
      · first | refine G.call (caps := []) (hdo) rfl rfl rfl rfl (by repeat first | exact tn_ | apply td_ rfl | apply tc_ | exact .here | apply Take1.there) ?_ | refine G.callU (caps := []) (hdo) rfl rfl rfl (by repeat first | exact tn_ | apply td_ rfl | apply tc_ | exact .here | apply Take1.there) ?_
        rintro v_ give_ ⟨ea1, ec1, no1, nc1, so, sc, yo, yc, rfl, rfl⟩ rs_ hrs_
        simp only [List.cons_append, List.nil_append] at hrs_
        subst hrs_
        try refine G.nil ?_
        refine GA.back (by first | exact .inl (by decide) | exact .inr ⟨_, (by repeat first | exact tn_ | apply td_ rfl | apply tc_ | exact .here | apply Take1.there)⟩) ?_
        refine GA.one (i := 8) (by kernel_rfl) rfl ?_
        refine G.alloc rfl (fun qb => ?_)
        try refine G.nil ?_
        refine GA.back (by first | exact .inl (by decide) | exact .inr ⟨_, (by repeat first | exact tn_ | apply td_ rfl | apply tc_ | exact .here | apply Take1.there)⟩) ?_
        refine GA.one (i := 9) (by kernel_rfl) rfl ?_
        first | refine G.storeBA rfl rfl rfl rfl rfl ?_
        try refine G.nil ?_
        refine GA.back (by first | exact .inl (by decide) | exact .inr ⟨_, (by repeat first | exact tn_ | apply td_ rfl | apply tc_ | exact .here | apply Take1.there)⟩) ?_
        refine GA.done (by kernel_rfl) ?_
        refine GE.meet (qb, (ea1, ec1), (no1, nc1), (so, sc), (yo, yc)) trivial (by simp only [fits]; repeat (first | exact trivial | refine And.intro rfl ?_)) (by repeat first | exact tn_ | apply td_ rfl | apply tc_ | exact .here | apply Take1.there) (by repeat (first | exact Subs.refl | refine Subs.skip ?_))
      · refine G.alloc rfl (fun qb => ?_)
        try refine G.nil ?_
        refine GA.back (by first | exact .inl (by decide) | exact .inr ⟨_, (by repeat first | exact tn_ | apply td_ rfl | apply tc_ | exact .here | apply Take1.there)⟩) ?_
        refine GA.one (i := 7) (by kernel_rfl) rfl ?_
        first | refine G.call (caps := []) (hdo) rfl rfl rfl rfl (by repeat first | exact tn_ | apply td_ rfl | apply tc_ | exact .here | apply Take1.there) ?_ | refine G.callU (caps := []) (hdo) rfl rfl rfl (by repeat first | exact tn_ | apply td_ rfl | apply tc_ | exact .here | apply Take1.there) ?_
        rintro v_ give_ ⟨ea1, ec1, no1, nc1, so, sc, yo, yc, rfl, rfl⟩ rs_ hrs_
        simp only [List.cons_append, List.nil_append] at hrs_
        subst hrs_
        try refine G.nil ?_
        refine GA.back (by first | exact .inl (by decide) | exact .inr ⟨_, (by repeat first | exact tn_ | apply td_ rfl | apply tc_ | exact .here | apply Take1.there)⟩) ?_
        refine GA.one (i := 9) (by kernel_rfl) rfl ?_
        first | refine G.storeBA rfl rfl rfl rfl rfl ?_
        try refine G.nil ?_
        refine GA.back (by first | exact .inl (by decide) | exact .inr ⟨_, (by repeat first | exact tn_ | apply td_ rfl | apply tc_ | exact .here | apply Take1.there)⟩) ?_
        refine GA.done (by kernel_rfl) ?_
        refine GE.meet (qb, (ea1, ec1), (no1, nc1), (so, sc), (yo, yc)) trivial (by simp only [fits]; repeat (first | exact trivial | refine And.intro rfl ?_)) (by repeat first | exact tn_ | apply td_ rfl | apply tc_ | exact .here | apply Take1.there) (by repeat (first | exact Subs.refl | refine Subs.skip ?_))
    · rintro ⟨qb, ⟨ea1, ec1⟩, ⟨no1, nc1⟩, ⟨so, sc⟩, ⟨yo, yc⟩⟩ - fr_ rs_ hfr_ hrs_
      simp only [List.cons_append, List.nil_append] at hfr_ hrs_
      subst hfr_ hrs_
      have hre := reply_sp wb ⟨sb, hb, da, dc, mo, mc, ea1, ec1, no1, nc1, fo, fc, FM⟩ { w with he := h1 } ⟨hw.fs, hw.n, hw.b⟩ k.f hn ⟨t, so, sc, yo, yc⟩ t1 (by simp only; omega) (by simp only; omega) (fun r hr => by have := num.2.1 r hr; omega)
      repeat (first | (apply G.ex (hd := rfl); case h => (first | exact Ex.loadB rfl rfl | exact Ex.loadBA rfl rfl rfl)) | refine GC.seq ?_ | refine GC.region ?_ | refine GE.then_normal ?_)
      refine G.conv (rs' := _) (fun w_ H_ => Holds.starIns (l := [.blk wb 60 [.int .i64 ((w).first), .pointer (some (badr sb 0)), .pointer (some (badr hb 0)), .slice fo (FM).length fc], .vec 92 3 fo (FM).length fc (flat eFr (FM)), .own (Star ((FM).map rFr)), .blk sb 79 [.slice da ((w).se).data.length dc, .bool ((w).se).closed, .int .i64 ((w).se).done, .slice mo ((w).se).more.length mc, .int .i64 ((w).se).next, .int .i64 ((w).se).again, .int .i64 ((w).se).edge], .vec 5 1 da ((w).se).data.length dc (flat eB ((w).se).data), .sl mo ((w).se).more.length mc 2 (flat eR ((w).se).more), .blk hb 81 [.int .i64 (h1).room, .slice ea1 (h1).data.length ec1, .int .i64 (h1).done, .slice no1 (h1).more.length nc1, .int .i64 (h1).taken, .int .i64 (h1).end_], .vec 5 1 ea1 (h1).data.length ec1 (flat eB (h1).data), .sl no1 (h1).more.length nc1 2 (flat eR (h1).more)]) (H_.take (need := [.blk wb 60 [.int .i64 ((w).first), .pointer (some (badr sb 0)), .pointer (some (badr hb 0)), .slice fo (FM).length fc], .vec 92 3 fo (FM).length fc (flat eFr (FM)), .own (Star ((FM).map rFr)), .blk sb 79 [.slice da ((w).se).data.length dc, .bool ((w).se).closed, .int .i64 ((w).se).done, .slice mo ((w).se).more.length mc, .int .i64 ((w).se).next, .int .i64 ((w).se).again, .int .i64 ((w).se).edge], .vec 5 1 da ((w).se).data.length dc (flat eB ((w).se).data), .sl mo ((w).se).more.length mc 2 (flat eR ((w).se).more), .blk hb 81 [.int .i64 (h1).room, .slice ea1 (h1).data.length ec1, .int .i64 (h1).done, .slice no1 (h1).more.length nc1, .int .i64 (h1).taken, .int .i64 (h1).end_], .vec 5 1 ea1 (h1).data.length ec1 (flat eB (h1).data), .sl no1 (h1).more.length nc1 2 (flat eR (h1).more)]) (by repeat first | exact tn_ | apply td_ rfl | apply tc_ | exact .here | apply Take1.there))) ?_
      try simp only [List.append_eq, List.nil_append, List.cons_append]
      first | refine G.call (caps := []) (hre) rfl rfl rfl rfl (by repeat first | exact tn_ | apply td_ rfl | apply tc_ | exact .here | apply Take1.there) ?_ | refine G.callU (caps := []) (hre) rfl rfl rfl (by repeat first | exact tn_ | apply td_ rfl | apply tc_ | exact .here | apply Take1.there) ?_
      rintro v_ give_ ⟨m', zo, zc, hm', rfl, rfl⟩ rs_ hrs_
      simp only [List.cons_append, List.nil_append] at hrs_
      subst hrs_
      repeat (first | refine G.storeBA rfl rfl rfl rfl rfl ?_ | refine G.nil ?_ | refine GC.ret ?_ | refine GE.then_normal ?_ | refine GE.then_ret ?_ | refine GE.block_ret ?_)
      refine GE.ret (by first | exact .inl rfl | exact .inr rfl) (resR1 Try.results18 (by first | exact RV.cell rfl (eP_len _) | exact RV.cell rfl rfl | exact RV.cell1 rfl)) ⟨m', zo, zc, hm', rfl, rfl⟩ (by repeat first | exact tn_ | apply td_ rfl | apply tc_ | exact .here | apply Take1.there) (by repeat (first | exact Subs.refl | refine Subs.skip ?_))
end pipe
end Go.Proofs.Ytcllddkhnbnigaa
