/-
  CONTRACT of a server's open, by the kit.
-/
import Derived.Test.YtmceappjldcbmaaGreatDoorServeA
namespace Go.Proofs.YtmceappjldcbmaaGreatDoor
open Go.RowKit
attribute [local irreducible] Ex G GC GE Gq FPost LPost
set_option linter.unusedVariables false
set_option linter.unusedSimpArgs false
namespace serve
open tree path msg
/-- what is open, or why it is not -/
noncomputable def openEnd (ps : List Pl) (t : Tr) (x : Sn) (i : Nat) (r : Rq) : Sv × Rp := if ¬ x.code = 0 then (⟨t, ps⟩, rp x.code) else opened ps t i r
theorem openF_end {s : Sv} {r : Rq} (hm : mayF r.how) {i : Nat} (hv : vac 0 s.ps = some i) :
    openF s r = if (doF s.t (statA r.path)).2.code = 0 ∧ has r.how 8 then (s, rp 8)
      else if (doF s.t (statA r.path)).2.code = 0 ∧ (doF s.t (statA r.path)).2.kind = 1 then (s, rp 14)
      else if (doF s.t (statA r.path)).2.code = 7 ∧ has r.how 4 then openEnd s.ps (doF s.t (fileA r.path)).1 (doF s.t (fileA r.path)).2 i r
      else openEnd s.ps s.t (doF s.t (statA r.path)).2 i r := by
  unfold openF openEnd
  rw [if_neg (fun h => h hm), hv]
set_option maxHeartbeats 16000000 in
theorem open_sp (s : Sv) (L : Nat → tree.Loc) (bs bt N : Nat) (k : SvOk s N) (hN : N ≤ 1000000) (m : Ms) (hr : RqOk m.r) :
    Spec Tryz.prog 25 [tree.ptr bs, .agg (eRq m).toArray] [SvB bs bt s.ps, TreeB s.t L bt, .own (NodesR s.t L)] fun v give => ∃ L', RpP (openF s m.r).2 [SvB bs bt (openF s m.r).1.ps, TreeB (openF s m.r).1.t L' bt, .own (NodesR (openF s m.r).1.t L')] v give := by
  obtain ⟨R, hR⟩ : ∃ R, openF s m.r = R := ⟨_, rfl⟩
  rw [hR]
  have h0 := hr.2.2.2.1
  have h1 := hr.2.2.2.2
  refine Spec.intro Tryz.func25 rfl Tryz.ntmps25 rfl fun w0 rest rs_ hrs_ => ?_
  simp only [List.cons_append, List.nil_append] at hrs_
  subst hrs_
  repeat (first | refine GC.seq ?_ | refine GC.region ?_)
  refine G.box (cs := eRq m) rfl rfl rfl fun ab => ?_
  repeat (first | fail)
  refine G.alloc rfl (fun rb => ?_)
  repeat (first | (apply G.ex (hd := rfl); case h => (first | exact Ex.move rfl)) | refine G.nil ?_ | refine GC.seq ?_ | refine GC.region ?_ | refine GE.then_normal ?_)
  first | refine G.call (caps := []) (free_sp bs bt s.ps k.len) rfl rfl rfl rfl (by repeat first | exact tn_ | apply td_ rfl | apply tc_ | exact .here | apply Take1.there) ?_ | refine G.callU (caps := []) (free_sp bs bt s.ps k.len) rfl rfl rfl (by repeat first | exact tn_ | apply td_ rfl | apply tc_ | exact .here | apply Take1.there) ?_
  rintro v_ give_ ⟨rfl, rfl⟩ rs_ hrs_
  simp only [List.cons_append, List.nil_append] at hrs_
  subst hrs_
  repeat (first | (apply G.ex (hd := rfl); case h => (first | exact Ex.fieldB rfl | exact Ex.loadB rfl rfl | exact Ex.assign rfl)) | refine G.nil ?_ | refine GC.seq ?_ | refine GC.region ?_ | refine GC.block ?_ | refine GE.then_normal ?_)
  first | refine G.call (caps := []) (may_sp m.r.how h0 h1) rfl rfl rfl rfl (by repeat first | exact tn_ | apply td_ rfl | apply tc_ | exact .here | apply Take1.there) ?_ | refine G.callU (caps := []) (may_sp m.r.how h0 h1) rfl rfl rfl (by repeat first | exact tn_ | apply td_ rfl | apply tc_ | exact .here | apply Take1.there) ?_
  rintro v_ give_ ⟨rfl, rfl⟩ rs_ hrs_
  simp only [List.cons_append, List.nil_append] at hrs_
  subst hrs_
  by_cases hm : mayF m.r.how
  · rw [decide_eq_true hm]
    cases hv : vac 0 s.ps with
    | none =>
      have e : openF s m.r = (s, rp 9) := by unfold openF; rw [if_neg (fun h => h hm), hv]
      rw [e] at hR
      subst hR
      simp only
      repeat (first | (apply G.ex (hd := rfl); case h => (first | exact Ex.move rfl | exact Ex.lss rfl rfl | exact Ex.assign rfl | exact Ex.notB rfl)) | refine G.nil ?_ | refine GC.seq ?_ | refine GC.region ?_ | refine GE.then_normal ?_ | refine GC.cond_yes rfl (by first | assumption | omega) ?_ | refine GC.cond_f rfl ?_)
      first | refine G.call (caps := []) (no_sp 9) rfl rfl rfl rfl (by repeat first | exact tn_ | apply td_ rfl | apply tc_ | exact .here | apply Take1.there) ?_ | refine G.callU (caps := []) (no_sp 9) rfl rfl rfl (by repeat first | exact tn_ | apply td_ rfl | apply tc_ | exact .here | apply Take1.there) ?_
      rintro v_ give_ ⟨rfl, rfl⟩ rs_ hrs_
      simp only [List.cons_append, List.nil_append] at hrs_
      subst hrs_
      repeat (first | refine G.storeBA rfl rfl rfl rfl rfl ?_ | refine G.nil ?_ | refine GC.ret ?_ | refine GE.then_normal ?_ | refine GE.then_ret ?_ | refine GE.block_ret ?_)
      refine GE.nilvec 5 1 ?_
      refine GE.nilvec 9 1 ?_
      refine GE.ret (by first | exact .inl rfl | exact .inr rfl) (resR1 Tryz.results25 (by first | exact RV.cell rfl (eP_len _) | exact RV.cell rfl rfl | exact RV.cell1 rfl)) ⟨L, none, 0, none, 0, rfl, rfl⟩ (by repeat first | exact tn_ | apply td_ rfl | apply tc_ | exact .here | apply Take1.there) (by repeat (first | exact Subs.refl | refine Subs.skip ?_))
    | some i =>
      obtain ⟨_, hi, hop⟩ := vac_some hv
      rw [Nat.zero_add, k.len] at hi
      have hil : i < s.ps.length := by rw [k.len]; exact hi
      rw [openF_end hm hv] at hR
      have hpl : m.r.path.length ≤ 9223372036854775807 := Nat.le_trans hr.1 (by decide)
      simp only
      repeat (first | (apply G.ex (hd := rfl); case h => (first | exact Ex.move rfl | exact Ex.lss rfl rfl | exact Ex.assign rfl | exact Ex.notB rfl)) | refine G.nil ?_ | refine GC.seq ?_ | refine GC.region ?_ | refine GC.skip ?_ | refine GE.then_normal ?_ | refine GE.block_normal ?_ | refine GC.cond_no rfl (by first | assumption | omega) ?_ | refine GC.cond_f rfl ?_)
      refine GC.meet (ι := (Nat → tree.Loc) × Option Addr × Nat × Option Addr × Nat × Nat) (fun _ => True) (fun x => [(0, tree.ptr bs), (3, tree.ptr ab), (4, tree.ptr rb), (5, .int .i64 (i : Int)), (6, tree.ptr x.2.2.2.2.2)]) (fun x => [SvB bs bt s.ps, .blk ab 39 (eRq m), .blk rb 45 (eRp (rp 0) none 0 none 0), .blk x.2.2.2.2.2 81 (eSn (doF s.t (statA m.r.path)).2 x.2.1 x.2.2.1 x.2.2.2.1 x.2.2.2.2.1), TreeB s.t x.1 bt, .own (NodesR s.t x.1)]) rest ?_ ?_
      · refine GC.nilsl 1 ?_
        refine GC.drawA [] [SvB bs bt s.ps, .blk ab 39 (eRq m)] (by repeat first | exact tn_ | apply td_ rfl | apply tc_ | exact .here | apply Take1.there) (by kernel_rfl) ?_
        first | (apply GA.take [] (hD := .inl rfl) (hsub := ⟨_, Takes.nil⟩) (i := 0) (hi := rfl) (hs := by kernel_rfl) (hfr := by kernel_rfl) (hr := by kernel_rfl) (hQ := np_) (hd := rfl); case hx => (first | exact Ex.move rfl))
        first | (apply GA.take [] (hD := .inl rfl) (hsub := ⟨_, Takes.nil⟩) (i := 1) (hi := rfl) (hs := by kernel_rfl) (hfr := by kernel_rfl) (hr := by kernel_rfl) (hQ := np_) (hd := rfl); case hx => (first | exact Ex.nilCheck rfl))
        first | (apply GA.take [] (hD := .inl rfl) (hsub := ⟨_, Takes.nil⟩) (i := 2) (hi := rfl) (hs := by kernel_rfl) (hfr := by kernel_rfl) (hr := by kernel_rfl) (hQ := np_) (hd := rfl); case hx => (first | exact Ex.fieldB rfl))
        first | (apply GA.take _ (hD := .inr ⟨rfl, by kernel_rfl⟩) (hsub := ⟨_, (by repeat first | exact tn_ | apply td_ rfl | apply tc_ | exact .here | apply Take1.there)⟩) (i := 3) (hi := rfl) (hs := by kernel_rfl) (hfr := by kernel_rfl) (hr := by kernel_rfl) (hQ := np_) (hd := rfl); case hx => (first | exact Ex.loadB rfl rfl))
        first | (apply GA.take [] (hD := .inl rfl) (hsub := ⟨_, Takes.nil⟩) (i := 4) (hi := rfl) (hs := by kernel_rfl) (hfr := by kernel_rfl) (hr := by kernel_rfl) (hQ := np_) (hd := rfl); case hx => (first | exact Ex.fieldB rfl))
        first | (apply GA.take _ (hD := .inr ⟨rfl, by kernel_rfl⟩) (hsub := ⟨_, (by repeat first | exact tn_ | apply td_ rfl | apply tc_ | exact .here | apply Take1.there)⟩) (i := 5) (hi := rfl) (hs := by kernel_rfl) (hfr := by kernel_rfl) (hr := by kernel_rfl) (hQ := np_) (hd := rfl); case hx => (first | exact Ex.loadB rfl rfl))
        first | (apply GA.take [] (hD := .inl rfl) (hsub := ⟨_, Takes.nil⟩) (i := 6) (hi := rfl) (hs := by kernel_rfl) (hfr := by kernel_rfl) (hr := by kernel_rfl) (hQ := np_) (hd := rfl); case hx => (first | exact Ex.build rfl rfl))
        refine GA.two (i := 7) (j := 8) (by kernel_rfl) rfl rfl ?_ ?_
        · first | refine G.call (caps := []) (tree.do_sp s.t L bt k.tr k.cn (statA m.r.path) (.sl none 0 0 1 (flat eB [])) none 0 (Nat.zero_le _) hpl (Nat.zero_le _)) rfl rfl rfl rfl (by repeat first | exact tn_ | apply td_ rfl | apply tc_ | exact .here | apply Take1.there) ?_ | refine G.callU (caps := []) (tree.do_sp s.t L bt k.tr k.cn (statA m.r.path) (.sl none 0 0 1 (flat eB [])) none 0 (Nat.zero_le _) hpl (Nat.zero_le _)) rfl rfl rfl (by repeat first | exact tn_ | apply td_ rfl | apply tc_ | exact .here | apply Take1.there) ?_
          rintro v_ give_ ⟨L', da, dc, na, nc, rfl, rfl⟩ rs_ hrs_
          simp only [List.cons_append, List.nil_append] at hrs_
          subst hrs_
          rw [do_look (a := statA m.r.path) (.inl rfl)]
          try refine G.nil ?_
          refine GA.back (by first | exact .inl (by decide) | exact .inr ⟨_, (by repeat first | exact tn_ | apply td_ rfl | apply tc_ | exact .here | apply Take1.there)⟩) ?_
          refine GA.one (i := 8) (by kernel_rfl) rfl ?_
          refine G.alloc rfl (fun xb => ?_)
          try refine G.nil ?_
          refine GA.back (by first | exact .inl (by decide) | exact .inr ⟨_, (by repeat first | exact tn_ | apply td_ rfl | apply tc_ | exact .here | apply Take1.there)⟩) ?_
          refine GA.one (i := 9) (by kernel_rfl) rfl ?_
          repeat (first | refine G.storeBA rfl rfl rfl rfl rfl ?_ | refine G.nil ?_)
          try refine G.nil ?_
          refine GA.back (by first | exact .inl (by decide) | exact .inr ⟨_, (by repeat first | exact tn_ | apply td_ rfl | apply tc_ | exact .here | apply Take1.there)⟩) ?_
          refine GA.done (by kernel_rfl) ?_
          refine GE.meet (L', da, dc, na, nc, xb) trivial (by simp only [fits]; repeat (first | exact trivial | refine And.intro rfl ?_)) (by repeat first | exact tn_ | apply td_ rfl | apply tc_ | exact .here | apply Take1.there) (by repeat (first | exact Subs.refl | refine Subs.skip ?_))
        · refine G.alloc rfl (fun xb => ?_)
          try refine G.nil ?_
          refine GA.back (by first | exact .inl (by decide) | exact .inr ⟨_, (by repeat first | exact tn_ | apply td_ rfl | apply tc_ | exact .here | apply Take1.there)⟩) ?_
          refine GA.one (i := 7) (by kernel_rfl) rfl ?_
          first | refine G.call (caps := []) (tree.do_sp s.t L bt k.tr k.cn (statA m.r.path) (.sl none 0 0 1 (flat eB [])) none 0 (Nat.zero_le _) hpl (Nat.zero_le _)) rfl rfl rfl rfl (by repeat first | exact tn_ | apply td_ rfl | apply tc_ | exact .here | apply Take1.there) ?_ | refine G.callU (caps := []) (tree.do_sp s.t L bt k.tr k.cn (statA m.r.path) (.sl none 0 0 1 (flat eB [])) none 0 (Nat.zero_le _) hpl (Nat.zero_le _)) rfl rfl rfl (by repeat first | exact tn_ | apply td_ rfl | apply tc_ | exact .here | apply Take1.there) ?_
          rintro v_ give_ ⟨L', da, dc, na, nc, rfl, rfl⟩ rs_ hrs_
          simp only [List.cons_append, List.nil_append] at hrs_
          subst hrs_
          rw [do_look (a := statA m.r.path) (.inl rfl)]
          try refine G.nil ?_
          refine GA.back (by first | exact .inl (by decide) | exact .inr ⟨_, (by repeat first | exact tn_ | apply td_ rfl | apply tc_ | exact .here | apply Take1.there)⟩) ?_
          refine GA.one (i := 9) (by kernel_rfl) rfl ?_
          repeat (first | refine G.storeBA rfl rfl rfl rfl rfl ?_ | refine G.nil ?_)
          try refine G.nil ?_
          refine GA.back (by first | exact .inl (by decide) | exact .inr ⟨_, (by repeat first | exact tn_ | apply td_ rfl | apply tc_ | exact .here | apply Take1.there)⟩) ?_
          refine GA.done (by kernel_rfl) ?_
          refine GE.meet (L', da, dc, na, nc, xb) trivial (by simp only [fits]; repeat (first | exact trivial | refine And.intro rfl ?_)) (by repeat first | exact tn_ | apply td_ rfl | apply tc_ | exact .here | apply Take1.there) (by repeat (first | exact Subs.refl | refine Subs.skip ?_))
      rintro ⟨L1, da, dc, na, nc, xb⟩ - fr_ rs_ hfr_ hrs_
      simp only [List.cons_append, List.nil_append] at hfr_ hrs_
      subst hfr_ hrs_
      generalize hst : (doF s.t (statA m.r.path)).2 = st at hR ⊢
      repeat ((fail_if_success (refine GC.seq ?_; refine GC.block (id := 1) ?_)); first | refine GE.then_normal ?_)
      refine GC.seq ?_
      refine GC.meet (ι := Tr × (Nat → tree.Loc) × Sn × Option Addr × Nat × Option Addr × Nat) (fun x => R = openEnd s.ps x.1 x.2.2.1 i m.r ∧ TrOk x.1 ∧ Cnt x.1) (fun x => [(0, tree.ptr bs), (3, tree.ptr ab), (4, tree.ptr rb), (5, .int .i64 (i : Int)), (6, tree.ptr xb)]) (fun x => [SvB bs bt s.ps, .blk ab 39 (eRq m), .blk rb 45 (eRp (rp 0) none 0 none 0), .blk xb 81 (eSn x.2.2.1 x.2.2.2.1 x.2.2.2.2.1 x.2.2.2.2.2.1 x.2.2.2.2.2.2), TreeB x.1 x.2.1 bt, .own (NodesR x.1 x.2.1)]) rest ?_ ?_
      · by_cases c0 : st.code = 0
        · by_cases h8 : has m.r.how 8
          · have q8 := bit_pos h0 h1 (k := 8) (by decide) h8
            rw [if_pos ⟨c0, h8⟩] at hR
            subst hR
            repeat (first | (apply G.ex (hd := rfl); case h => (first | exact Ex.move rfl | exact Ex.fieldB rfl | exact Ex.loadB rfl rfl | exact Ex.gtr rfl rfl | exact Ex.eqI rfl rfl | exact Ex.assign rfl | exact Ex.pickT rfl (by first | assumption | omega) rfl | exact Ex.and rfl rfl)) | refine G.g_tt rfl rfl (by first | assumption | omega) ?_ | refine G.nil ?_ | refine GC.seq ?_ | refine GC.region ?_ | refine GC.block ?_ | refine GE.then_normal ?_ | refine GC.cond_yes rfl (by first | assumption | omega) ?_)
            first | refine G.call (caps := []) (no_sp 8) rfl rfl rfl rfl (by repeat first | exact tn_ | apply td_ rfl | apply tc_ | exact .here | apply Take1.there) ?_ | refine G.callU (caps := []) (no_sp 8) rfl rfl rfl (by repeat first | exact tn_ | apply td_ rfl | apply tc_ | exact .here | apply Take1.there) ?_
            rintro v_ give_ ⟨rfl, rfl⟩ rs_ hrs_
            simp only [List.cons_append, List.nil_append] at hrs_
            subst hrs_
            repeat (first | refine G.storeBA rfl rfl rfl rfl rfl ?_ | refine G.nil ?_ | refine GC.ret ?_ | refine GE.then_normal ?_ | refine GE.then_ret ?_ | refine GE.block_ret ?_)
            refine GE.nilvec 5 1 ?_
            refine GE.nilvec 9 1 ?_
            refine GE.ret (by first | exact .inl rfl | exact .inr rfl) (resR1 Tryz.results25 (by first | exact RV.cell rfl (eP_len _) | exact RV.cell rfl rfl | exact RV.cell1 rfl)) ⟨L1, none, 0, none, 0, rfl, rfl⟩ (by repeat first | exact tn_ | apply td_ rfl | apply tc_ | exact .here | apply Take1.there) (by repeat (first | exact Subs.refl | refine Subs.skip ?_))
          · have q8 := bit_neg h0 h1 (k := 8) (by decide) h8
            rw [if_neg (fun h => h8 h.2)] at hR
            by_cases kd : st.kind = 1
            · rw [if_pos ⟨c0, kd⟩] at hR
              subst hR
              repeat (first | (apply G.ex (hd := rfl); case h => (first | exact Ex.move rfl | exact Ex.fieldB rfl | exact Ex.loadB rfl rfl | exact Ex.gtr rfl rfl | exact Ex.eqI rfl rfl | exact Ex.assign rfl | exact Ex.pickT rfl (by first | assumption | omega) rfl | exact Ex.and rfl rfl)) | refine G.g_tt rfl rfl (by first | assumption | omega) ?_ | refine G.nil ?_ | refine GC.seq ?_ | refine GC.region ?_ | refine GC.block ?_ | refine GE.then_normal ?_ | refine GC.cond_yes rfl (by first | assumption | omega) ?_ | refine GC.cond_no rfl (by first | assumption | omega) ?_)
              first | refine G.call (caps := []) (no_sp 14) rfl rfl rfl rfl (by repeat first | exact tn_ | apply td_ rfl | apply tc_ | exact .here | apply Take1.there) ?_ | refine G.callU (caps := []) (no_sp 14) rfl rfl rfl (by repeat first | exact tn_ | apply td_ rfl | apply tc_ | exact .here | apply Take1.there) ?_
              rintro v_ give_ ⟨rfl, rfl⟩ rs_ hrs_
              simp only [List.cons_append, List.nil_append] at hrs_
              subst hrs_
              repeat (first | refine G.storeBA rfl rfl rfl rfl rfl ?_ | refine G.nil ?_ | refine GC.ret ?_ | refine GE.then_normal ?_ | refine GE.then_ret ?_ | refine GE.block_ret ?_)
              refine GE.nilvec 5 1 ?_
              refine GE.nilvec 9 1 ?_
              refine GE.ret (by first | exact .inl rfl | exact .inr rfl) (resR1 Tryz.results25 (by first | exact RV.cell rfl (eP_len _) | exact RV.cell rfl rfl | exact RV.cell1 rfl)) ⟨L1, none, 0, none, 0, rfl, rfl⟩ (by repeat first | exact tn_ | apply td_ rfl | apply tc_ | exact .here | apply Take1.there) (by repeat (first | exact Subs.refl | refine Subs.skip ?_))
            · rw [if_neg (fun h => kd h.2), if_neg (fun h => by rw [c0] at h; exact absurd h.1 (by decide))] at hR
              have c7 : ¬ st.code = 7 := by omega
              repeat (first | (apply G.ex (hd := rfl); case h => (first | exact Ex.move rfl | exact Ex.fieldB rfl | exact Ex.loadB rfl rfl | exact Ex.gtr rfl rfl | exact Ex.eqI rfl rfl | exact Ex.assign rfl | exact Ex.pickT rfl (by first | assumption | omega) rfl | exact Ex.pickF rfl (by first | assumption | omega) rfl | exact Ex.and rfl rfl)) | refine G.g_tt rfl rfl (by first | assumption | omega) ?_ | refine G.g_tf rfl rfl (by first | assumption | omega) rfl ?_ | refine G.nil ?_ | refine GC.seq ?_ | refine GC.region ?_ | refine GC.block ?_ | refine GC.skip ?_ | refine GE.then_normal ?_ | refine GE.block_normal ?_ | refine GC.cond_no rfl (by first | assumption | omega) ?_ | refine GC.cond_f rfl ?_)
              refine GE.meet (s.t, L1, st, da, dc, na, nc) ⟨hR.symm, k.tr, k.cn⟩ (by simp only [fits]; repeat (first | exact trivial | refine And.intro rfl ?_)) (by repeat first | exact tn_ | apply td_ rfl | apply tc_ | exact .here | apply Take1.there) (by repeat (first | exact Subs.refl | refine Subs.skip ?_))
        · rw [if_neg (fun h => c0 h.1), if_neg (fun h => c0 h.1)] at hR
          by_cases c7 : st.code = 7
          · by_cases h4 : has m.r.how 4
            · have q4 := bit_pos h0 h1 (k := 4) (by decide) h4
              rw [if_pos ⟨c7, h4⟩] at hR
              repeat (first | (apply G.ex (hd := rfl); case h => (first | exact Ex.move rfl | exact Ex.fieldB rfl | exact Ex.loadB rfl rfl | exact Ex.gtr rfl rfl | exact Ex.eqI rfl rfl | exact Ex.assign rfl | exact Ex.pickT rfl (by first | assumption | omega) rfl | exact Ex.pickF rfl (by first | assumption | omega) rfl | exact Ex.and rfl rfl)) | refine G.g_tt rfl rfl (by first | assumption | omega) ?_ | refine G.g_tf rfl rfl (by first | assumption | omega) rfl ?_ | refine G.nil ?_ | refine GC.seq ?_ | refine GC.region ?_ | refine GC.block ?_ | refine GE.then_normal ?_ | refine GC.cond_yes rfl (by first | assumption | omega) ?_ | refine GC.cond_f rfl ?_)
              refine GC.nilsl 1 ?_
              refine GC.drawA [] [SvB bs bt s.ps, .blk ab 39 (eRq m)] (by repeat first | exact tn_ | apply td_ rfl | apply tc_ | exact .here | apply Take1.there) (by kernel_rfl) ?_
              first | (apply GA.take [] (hD := .inl rfl) (hsub := ⟨_, Takes.nil⟩) (i := 0) (hi := rfl) (hs := by kernel_rfl) (hfr := by kernel_rfl) (hr := by kernel_rfl) (hQ := np_) (hd := rfl); case hx => (first | exact Ex.move rfl))
              first | (apply GA.take [] (hD := .inl rfl) (hsub := ⟨_, Takes.nil⟩) (i := 1) (hi := rfl) (hs := by kernel_rfl) (hfr := by kernel_rfl) (hr := by kernel_rfl) (hQ := np_) (hd := rfl); case hx => (first | exact Ex.nilCheck rfl))
              first | (apply GA.take [] (hD := .inl rfl) (hsub := ⟨_, Takes.nil⟩) (i := 2) (hi := rfl) (hs := by kernel_rfl) (hfr := by kernel_rfl) (hr := by kernel_rfl) (hQ := np_) (hd := rfl); case hx => (first | exact Ex.fieldB rfl))
              first | (apply GA.take _ (hD := .inr ⟨rfl, by kernel_rfl⟩) (hsub := ⟨_, (by repeat first | exact tn_ | apply td_ rfl | apply tc_ | exact .here | apply Take1.there)⟩) (i := 3) (hi := rfl) (hs := by kernel_rfl) (hfr := by kernel_rfl) (hr := by kernel_rfl) (hQ := np_) (hd := rfl); case hx => (first | exact Ex.loadB rfl rfl))
              first | (apply GA.take [] (hD := .inl rfl) (hsub := ⟨_, Takes.nil⟩) (i := 4) (hi := rfl) (hs := by kernel_rfl) (hfr := by kernel_rfl) (hr := by kernel_rfl) (hQ := np_) (hd := rfl); case hx => (first | exact Ex.fieldB rfl))
              first | (apply GA.take _ (hD := .inr ⟨rfl, by kernel_rfl⟩) (hsub := ⟨_, (by repeat first | exact tn_ | apply td_ rfl | apply tc_ | exact .here | apply Take1.there)⟩) (i := 5) (hi := rfl) (hs := by kernel_rfl) (hfr := by kernel_rfl) (hr := by kernel_rfl) (hQ := np_) (hd := rfl); case hx => (first | exact Ex.loadB rfl rfl))
              first | (apply GA.take [] (hD := .inl rfl) (hsub := ⟨_, Takes.nil⟩) (i := 6) (hi := rfl) (hs := by kernel_rfl) (hfr := by kernel_rfl) (hr := by kernel_rfl) (hQ := np_) (hd := rfl); case hx => (first | exact Ex.build rfl rfl))
              refine GA.one (i := 7) (by kernel_rfl) rfl ?_
              first | refine G.call (caps := []) (tree.do_sp s.t L1 bt k.tr k.cn (fileA m.r.path) (.sl none 0 0 1 (flat eB [])) none 0 (Nat.zero_le _) hpl (Nat.zero_le _)) rfl rfl rfl rfl (by repeat first | exact tn_ | apply td_ rfl | apply tc_ | exact .here | apply Take1.there) ?_ | refine G.callU (caps := []) (tree.do_sp s.t L1 bt k.tr k.cn (fileA m.r.path) (.sl none 0 0 1 (flat eB [])) none 0 (Nat.zero_le _) hpl (Nat.zero_le _)) rfl rfl rfl (by repeat first | exact tn_ | apply td_ rfl | apply tc_ | exact .here | apply Take1.there) ?_
              rintro v_ give_ ⟨L2, da2, dc2, na2, nc2, rfl, rfl⟩ rs_ hrs_
              simp only [List.cons_append, List.nil_append] at hrs_
              subst hrs_
              try refine G.nil ?_
              refine GA.back (by first | exact .inl (by decide) | exact .inr ⟨_, (by repeat first | exact tn_ | apply td_ rfl | apply tc_ | exact .here | apply Take1.there)⟩) ?_
              refine GA.one (i := 8) (by kernel_rfl) rfl ?_
              repeat (first | refine G.storeBA rfl rfl rfl rfl rfl ?_ | refine G.nil ?_)
              try refine G.nil ?_
              refine GA.back (by first | exact .inl (by decide) | exact .inr ⟨_, (by repeat first | exact tn_ | apply td_ rfl | apply tc_ | exact .here | apply Take1.there)⟩) ?_
              refine GA.done (by kernel_rfl) ?_
              have hk2 := k.tr.do_ k.cn (fileA m.r.path)
              repeat (first | refine GE.block_normal ?_)
              refine GE.meet ((doF s.t (fileA m.r.path)).1, L2, (doF s.t (fileA m.r.path)).2, da2, dc2, na2, nc2) ⟨hR.symm, hk2.1, hk2.2⟩ (by simp only [fits]; repeat (first | exact trivial | refine And.intro rfl ?_)) (by repeat first | exact tn_ | apply td_ rfl | apply tc_ | exact .here | apply Take1.there) (by repeat (first | exact Subs.refl | refine Subs.skip ?_))
            · have q4 := bit_neg h0 h1 (k := 4) (by decide) h4
              rw [if_neg (fun h => h4 h.2)] at hR
              repeat (first | (apply G.ex (hd := rfl); case h => (first | exact Ex.move rfl | exact Ex.fieldB rfl | exact Ex.loadB rfl rfl | exact Ex.gtr rfl rfl | exact Ex.eqI rfl rfl | exact Ex.assign rfl | exact Ex.pickT rfl (by first | assumption | omega) rfl | exact Ex.pickF rfl (by first | assumption | omega) rfl | exact Ex.and rfl rfl)) | refine G.g_tt rfl rfl (by first | assumption | omega) ?_ | refine G.g_tf rfl rfl (by first | assumption | omega) rfl ?_ | refine G.nil ?_ | refine GC.seq ?_ | refine GC.region ?_ | refine GC.block ?_ | refine GC.skip ?_ | refine GE.then_normal ?_ | refine GE.block_normal ?_ | refine GC.cond_no rfl (by first | assumption | omega) ?_ | refine GC.cond_f rfl ?_)
              refine GE.meet (s.t, L1, st, da, dc, na, nc) ⟨hR.symm, k.tr, k.cn⟩ (by simp only [fits]; repeat (first | exact trivial | refine And.intro rfl ?_)) (by repeat first | exact tn_ | apply td_ rfl | apply tc_ | exact .here | apply Take1.there) (by repeat (first | exact Subs.refl | refine Subs.skip ?_))
          · rw [if_neg (fun h => c7 h.1)] at hR
            repeat (first | (apply G.ex (hd := rfl); case h => (first | exact Ex.move rfl | exact Ex.fieldB rfl | exact Ex.loadB rfl rfl | exact Ex.eqI rfl rfl | exact Ex.assign rfl | exact Ex.pickF rfl (by first | assumption | omega) rfl)) | refine G.g_tf rfl rfl (by first | assumption | omega) rfl ?_ | refine G.nil ?_ | refine GC.seq ?_ | refine GC.region ?_ | refine GC.block ?_ | refine GC.skip ?_ | refine GE.then_normal ?_ | refine GE.block_normal ?_ | refine GC.cond_f rfl ?_)
            refine GE.meet (s.t, L1, st, da, dc, na, nc) ⟨hR.symm, k.tr, k.cn⟩ (by simp only [fits]; repeat (first | exact trivial | refine And.intro rfl ?_)) (by repeat first | exact tn_ | apply td_ rfl | apply tc_ | exact .here | apply Take1.there) (by repeat (first | exact Subs.refl | refine Subs.skip ?_))
      clear hR hst
      rintro ⟨t, L2, x, da2, dc2, na2, nc2⟩ ⟨hR, kt, ct⟩ fr_ rs_ hfr_ hrs_
      simp only [List.cons_append, List.nil_append] at hfr_ hrs_ hR kt ct
      subst hfr_ hrs_
      unfold openEnd at hR
      by_cases cx : x.code = 0
      · rw [if_neg (fun h => h cx)] at hR
        have hfr : (s.ps.getD i default).freed ≤ 1000000 := Nat.le_trans (freed_at k.freed) hN
        repeat ((fail_if_success (refine GC.seq ?_; refine GC.region (id := 15) ?_)); first | (apply G.ex (hd := rfl); case h => (first | exact Ex.fieldB rfl | exact Ex.loadB rfl rfl | exact Ex.neI rfl rfl)) | refine G.nil ?_ | refine GC.seq ?_ | refine GC.region ?_ | refine GC.skip ?_ | refine GE.then_normal ?_ | refine GC.cond_no rfl (by first | assumption | omega) ?_)
        refine GC.meet (ι := Tr × (Nat → tree.Loc)) (fun y => y.1 = if has m.r.how 16 then (doF t (cutA m.r.path)).1 else t) (fun y => [(0, tree.ptr bs), (3, tree.ptr ab), (4, tree.ptr rb), (5, .int .i64 (i : Int))]) (fun y => [SvB bs bt s.ps, .blk ab 39 (eRq m), .blk rb 45 (eRp (rp 0) none 0 none 0), TreeB y.1 y.2 bt, .own (NodesR y.1 y.2)]) rest ?_ ?_
        · by_cases h16 : has m.r.how 16
          · have q16 := bit_pos h0 h1 (k := 16) (by decide) h16
            repeat (first | (apply G.ex (hd := rfl); case h => (first | exact Ex.fieldB rfl | exact Ex.loadB rfl rfl | exact Ex.gtr rfl rfl | exact Ex.and rfl rfl)) | refine G.nil ?_ | refine GC.seq ?_ | refine GC.region ?_ | refine GE.then_normal ?_ | refine GC.cond_yes rfl (by first | assumption | omega) ?_)
            refine GC.nilsl 1 ?_
            refine GC.drawA [] [SvB bs bt s.ps, .blk ab 39 (eRq m)] (by repeat first | exact tn_ | apply td_ rfl | apply tc_ | exact .here | apply Take1.there) (by kernel_rfl) ?_
            first | (apply GA.take [] (hD := .inl rfl) (hsub := ⟨_, Takes.nil⟩) (i := 0) (hi := rfl) (hs := by kernel_rfl) (hfr := by kernel_rfl) (hr := by kernel_rfl) (hQ := np_) (hd := rfl); case hx => (first | exact Ex.move rfl))
            first | (apply GA.take [] (hD := .inl rfl) (hsub := ⟨_, Takes.nil⟩) (i := 1) (hi := rfl) (hs := by kernel_rfl) (hfr := by kernel_rfl) (hr := by kernel_rfl) (hQ := np_) (hd := rfl); case hx => (first | exact Ex.nilCheck rfl))
            first | (apply GA.take [] (hD := .inl rfl) (hsub := ⟨_, Takes.nil⟩) (i := 2) (hi := rfl) (hs := by kernel_rfl) (hfr := by kernel_rfl) (hr := by kernel_rfl) (hQ := np_) (hd := rfl); case hx => (first | exact Ex.fieldB rfl))
            first | (apply GA.take _ (hD := .inr ⟨rfl, by kernel_rfl⟩) (hsub := ⟨_, (by repeat first | exact tn_ | apply td_ rfl | apply tc_ | exact .here | apply Take1.there)⟩) (i := 3) (hi := rfl) (hs := by kernel_rfl) (hfr := by kernel_rfl) (hr := by kernel_rfl) (hQ := np_) (hd := rfl); case hx => (first | exact Ex.loadB rfl rfl))
            first | (apply GA.take [] (hD := .inl rfl) (hsub := ⟨_, Takes.nil⟩) (i := 4) (hi := rfl) (hs := by kernel_rfl) (hfr := by kernel_rfl) (hr := by kernel_rfl) (hQ := np_) (hd := rfl); case hx => (first | exact Ex.fieldB rfl))
            first | (apply GA.take _ (hD := .inr ⟨rfl, by kernel_rfl⟩) (hsub := ⟨_, (by repeat first | exact tn_ | apply td_ rfl | apply tc_ | exact .here | apply Take1.there)⟩) (i := 5) (hi := rfl) (hs := by kernel_rfl) (hfr := by kernel_rfl) (hr := by kernel_rfl) (hQ := np_) (hd := rfl); case hx => (first | exact Ex.loadB rfl rfl))
            first | (apply GA.take [] (hD := .inl rfl) (hsub := ⟨_, Takes.nil⟩) (i := 6) (hi := rfl) (hs := by kernel_rfl) (hfr := by kernel_rfl) (hr := by kernel_rfl) (hQ := np_) (hd := rfl); case hx => (first | exact Ex.build rfl rfl))
            refine GA.one (i := 7) (by kernel_rfl) rfl ?_
            first | refine G.call (caps := []) (tree.do_sp t L2 bt kt ct (cutA m.r.path) (.sl none 0 0 1 (flat eB [])) none 0 (Nat.zero_le _) hpl (Nat.zero_le _)) rfl rfl rfl rfl (by repeat first | exact tn_ | apply td_ rfl | apply tc_ | exact .here | apply Take1.there) ?_ | refine G.callU (caps := []) (tree.do_sp t L2 bt kt ct (cutA m.r.path) (.sl none 0 0 1 (flat eB [])) none 0 (Nat.zero_le _) hpl (Nat.zero_le _)) rfl rfl rfl (by repeat first | exact tn_ | apply td_ rfl | apply tc_ | exact .here | apply Take1.there) ?_
            rintro v_ give_ ⟨L3, da3, dc3, na3, nc3, rfl, rfl⟩ rs_ hrs_
            simp only [List.cons_append, List.nil_append] at hrs_
            subst hrs_
            try refine G.nil ?_
            refine GA.back (by first | exact .inl (by decide) | exact .inr ⟨_, (by repeat first | exact tn_ | apply td_ rfl | apply tc_ | exact .here | apply Take1.there)⟩) ?_
            refine GA.done (by kernel_rfl) ?_
            repeat (first | fail)
            refine GE.meet ((doF t (cutA m.r.path)).1, L3) ((if_pos h16).symm) (by simp only [fits]; repeat (first | exact trivial | refine And.intro rfl ?_)) (by repeat first | exact tn_ | apply td_ rfl | apply tc_ | exact .here | apply Take1.there) (by repeat (first | exact Subs.refl | refine Subs.skip ?_))
          · have q16 := bit_neg h0 h1 (k := 16) (by decide) h16
            repeat (first | (apply G.ex (hd := rfl); case h => (first | exact Ex.fieldB rfl | exact Ex.loadB rfl rfl | exact Ex.gtr rfl rfl | exact Ex.and rfl rfl)) | refine G.nil ?_ | refine GC.seq ?_ | refine GC.region ?_ | refine GC.skip ?_ | refine GE.then_normal ?_ | refine GC.cond_no rfl (by first | assumption | omega) ?_)
            refine GE.meet (t, L2) ((if_neg h16).symm) (by simp only [fits]; repeat (first | exact trivial | refine And.intro rfl ?_)) (by repeat first | exact tn_ | apply td_ rfl | apply tc_ | exact .here | apply Take1.there) (by repeat (first | exact Subs.refl | refine Subs.skip ?_))
        rintro ⟨t2, L3⟩ ht2 fr_ rs_ hfr_ hrs_
        simp only [List.cons_append, List.nil_append] at hfr_ hrs_ ht2
        subst hfr_ hrs_
        have hR2 : R = (⟨t2, s.ps.set i ⟨(s.ps.getD i default).freed, true, m.r.path, m.r.how⟩⟩, ⟨0, 0, (i : Int) + 8 * ((s.ps.getD i default).freed : Int), 0, 0, [], []⟩) := by
          rw [hR]; unfold opened; rw [← ht2]
        subst hR2
        have hset : (s.ps.set i ⟨(s.ps.getD i default).freed, true, m.r.path, m.r.how⟩).getD i default = (⟨(s.ps.getD i default).freed, true, m.r.path, m.r.how⟩ : Pl) := by rw [getD_set', if_pos ⟨rfl, hil⟩]
        have hlen : i < (s.ps.set i (⟨(s.ps.getD i default).freed, true, m.r.path, m.r.how⟩ : Pl)).length := by rw [List.length_set]; exact hil
        repeat ((fail_if_success (refine GC.seq ?_; refine GC.region (id := 17) ?_)); first | refine GE.then_normal ?_)
        refine GC.seq ?_
        refine GC.region ?_
        iterate 4 (first | (apply G.ex (hd := rfl); case h => (first | exact Ex.move rfl | exact Ex.nilCheck rfl | exact Ex.fieldB rfl)))
        refine G.ex (Ex.indexPS (k := i) rfl rfl hi) rfl ?_
        repeat (first | (apply G.ex (hd := rfl); case h => (first | exact Ex.assign rfl)) | refine G.nil ?_ | refine GC.seq ?_ | refine GE.then_normal ?_)
        refine GC.drawA [] [.blk ab 39 (eRq m)] (by repeat first | exact tn_ | apply td_ rfl | apply tc_ | exact .here | apply Take1.there) (by kernel_rfl) ?_
        first | (apply GA.take [] (hD := .inl rfl) (hsub := ⟨_, Takes.nil⟩) (i := 0) (hi := rfl) (hs := by kernel_rfl) (hfr := by kernel_rfl) (hr := by kernel_rfl) (hQ := np_) (hd := rfl); case hx => (first | exact Ex.move rfl))
        first | (apply GA.take [] (hD := .inl rfl) (hsub := ⟨_, Takes.nil⟩) (i := 1) (hi := rfl) (hs := by kernel_rfl) (hfr := by kernel_rfl) (hr := by kernel_rfl) (hQ := np_) (hd := rfl); case hx => (first | exact Ex.move rfl))
        first | (apply GA.take [] (hD := .inl rfl) (hsub := ⟨_, Takes.nil⟩) (i := 2) (hi := rfl) (hs := by kernel_rfl) (hfr := by kernel_rfl) (hr := by kernel_rfl) (hQ := np_) (hd := rfl); case hx => (first | exact Ex.move rfl))
        first | (apply GA.take [] (hD := .inl rfl) (hsub := ⟨_, Takes.nil⟩) (i := 3) (hi := rfl) (hs := by kernel_rfl) (hfr := by kernel_rfl) (hr := by kernel_rfl) (hQ := np_) (hd := rfl); case hx => (first | exact Ex.fieldB rfl))
        first | (apply GA.take _ (hD := .inr ⟨rfl, by kernel_rfl⟩) (hsub := ⟨_, (by repeat first | exact tn_ | apply td_ rfl | apply tc_ | exact .here | apply Take1.there)⟩) (i := 4) (hi := rfl) (hs := by kernel_rfl) (hfr := by kernel_rfl) (hr := by kernel_rfl) (hQ := np_) (hd := rfl); case hx => (first | exact Ex.loadB rfl rfl))
        first | (apply GA.take [] (hD := .inl rfl) (hsub := ⟨_, Takes.nil⟩) (i := 5) (hi := rfl) (hs := by kernel_rfl) (hfr := by kernel_rfl) (hr := by kernel_rfl) (hQ := np_) (hd := rfl); case hx => (first | exact Ex.fieldB rfl))
        first | (apply GA.take _ (hD := .inr ⟨rfl, by kernel_rfl⟩) (hsub := ⟨_, (by repeat first | exact tn_ | apply td_ rfl | apply tc_ | exact .here | apply Take1.there)⟩) (i := 6) (hi := rfl) (hs := by kernel_rfl) (hfr := by kernel_rfl) (hr := by kernel_rfl) (hQ := np_) (hd := rfl); case hx => (first | exact Ex.loadB rfl rfl))
        first | (apply GA.take [] (hD := .inl rfl) (hsub := ⟨_, Takes.nil⟩) (i := 7) (hi := rfl) (hs := by kernel_rfl) (hfr := by kernel_rfl) (hr := by kernel_rfl) (hQ := np_) (hd := rfl); case hx => (first | exact Ex.nilCheck rfl))
        first | (apply GA.take [] (hD := .inl rfl) (hsub := ⟨_, Takes.nil⟩) (i := 8) (hi := rfl) (hs := by kernel_rfl) (hfr := by kernel_rfl) (hr := by kernel_rfl) (hQ := np_) (hd := rfl); case hx => (first | exact Ex.fieldB rfl))
        refine GA.one (i := 9) (by kernel_rfl) rfl ?_
        refine G.storeB rfl rfl rfl rfl (blt_of (by rw [svC_len]; omega)) ?_
        try refine G.nil ?_
        refine GA.back (by first | exact .inl (by decide) | exact .inr ⟨_, (by repeat first | exact tn_ | apply td_ rfl | apply tc_ | exact .here | apply Take1.there)⟩) ?_
        first | (apply GA.take [] (hD := .inl rfl) (hsub := ⟨_, Takes.nil⟩) (i := 10) (hi := rfl) (hs := by kernel_rfl) (hfr := by kernel_rfl) (hr := by kernel_rfl) (hQ := np_) (hd := rfl); case hx => (first | exact Ex.nilCheck rfl))
        first | (apply GA.take [] (hD := .inl rfl) (hsub := ⟨_, Takes.nil⟩) (i := 11) (hi := rfl) (hs := by kernel_rfl) (hfr := by kernel_rfl) (hr := by kernel_rfl) (hQ := np_) (hd := rfl); case hx => (first | exact Ex.fieldB rfl))
        refine GA.one (i := 12) (by kernel_rfl) rfl ?_
        refine G.storeB rfl rfl rfl rfl (blt_of (by rw [List.length_set, svC_len]; omega)) ?_
        try refine G.nil ?_
        refine GA.back (by first | exact .inl (by decide) | exact .inr ⟨_, (by repeat first | exact tn_ | apply td_ rfl | apply tc_ | exact .here | apply Take1.there)⟩) ?_
        first | (apply GA.take [] (hD := .inl rfl) (hsub := ⟨_, Takes.nil⟩) (i := 13) (hi := rfl) (hs := by kernel_rfl) (hfr := by kernel_rfl) (hr := by kernel_rfl) (hQ := np_) (hd := rfl); case hx => (first | exact Ex.nilCheck rfl))
        first | (apply GA.take [] (hD := .inl rfl) (hsub := ⟨_, Takes.nil⟩) (i := 14) (hi := rfl) (hs := by kernel_rfl) (hfr := by kernel_rfl) (hr := by kernel_rfl) (hQ := np_) (hd := rfl); case hx => (first | exact Ex.fieldB rfl))
        refine GA.one (i := 15) (by kernel_rfl) rfl ?_
        refine G.storeB rfl rfl rfl rfl (blt_of (by rw [List.length_set, List.length_set, svC_len]; omega)) ?_
        refine G.conv (fun w_ H_ => Holds.reblk (svC_open hil m.r.path m.r.how) (H_.take (need := [.blk bs 71 ((((svC bt s.ps).set (0 + 1 + i * 4 + 1) (.bool true)).set (0 + 1 + i * 4 + 2) (.string (sOf m.r.path))).set (0 + 1 + i * 4 + 3) (.int .i64 m.r.how))]) (by repeat first | exact tn_ | apply td_ rfl | apply tc_ | exact .here | apply Take1.there))) ?_
        try simp only [List.append_eq, List.nil_append, List.cons_append]
        try refine G.nil ?_
        refine GA.back (by first | exact .inl (by decide) | exact .inr ⟨_, (by repeat first | exact tn_ | apply td_ rfl | apply tc_ | exact .here | apply Take1.there)⟩) ?_
        refine GA.done (by kernel_rfl) ?_
        repeat (first | (apply G.ex (hd := rfl); case h => (first | exact Ex.move rfl | exact Ex.nilCheck rfl | exact Ex.fieldB rfl)) | refine GC.seq ?_ | refine GC.region ?_ | refine GE.then_normal ?_)
        refine G.ex (Ex.loadB rfl (svC_at (k := i) (j := 0) hlen (by decide) (by rw [hset]; rfl))) rfl ?_
        generalize (s.ps.getD i default).freed = f at *
        repeat (first | refine G.storeBA rfl rfl rfl rfl rfl ?_ | (apply G.ex (hd := rfl); case h => (first | exact Ex.add rfl rfl (by omega) | exact Ex.mul rfl rfl (by omega) | exact Ex.build rfl rfl)) | refine G.nil ?_ | refine GC.ret ?_ | refine GE.then_normal ?_)
        refine GE.nilvec 5 1 ?_
        refine GE.nilvec 9 1 ?_
        refine GE.ret (by first | exact .inl rfl | exact .inr rfl) (resR1 Tryz.results25 (by first | exact RV.cell rfl (eP_len _) | exact RV.cell rfl rfl | exact RV.cell1 rfl)) ⟨L3, none, 0, none, 0, rfl, rfl⟩ (by repeat first | exact tn_ | apply td_ rfl | apply tc_ | exact .here | apply Take1.there) (by repeat (first | exact Subs.refl | refine Subs.skip ?_))
      · rw [if_pos cx] at hR
        subst hR
        repeat (first | (apply G.ex (hd := rfl); case h => (first | exact Ex.fieldB rfl | exact Ex.loadB rfl rfl | exact Ex.neI rfl rfl)) | refine G.nil ?_ | refine GC.seq ?_ | refine GC.region ?_ | refine GE.then_normal ?_ | refine GC.cond_yes rfl (by first | assumption | omega) ?_)
        first | refine G.call (caps := []) (no_sp x.code) rfl rfl rfl rfl (by repeat first | exact tn_ | apply td_ rfl | apply tc_ | exact .here | apply Take1.there) ?_ | refine G.callU (caps := []) (no_sp x.code) rfl rfl rfl (by repeat first | exact tn_ | apply td_ rfl | apply tc_ | exact .here | apply Take1.there) ?_
        rintro v_ give_ ⟨rfl, rfl⟩ rs_ hrs_
        simp only [List.cons_append, List.nil_append] at hrs_
        subst hrs_
        repeat (first | refine G.storeBA rfl rfl rfl rfl rfl ?_ | refine G.nil ?_ | refine GC.ret ?_ | refine GE.then_normal ?_ | refine GE.then_ret ?_)
        refine GE.nilvec 5 1 ?_
        refine GE.nilvec 9 1 ?_
        refine GE.ret (by first | exact .inl rfl | exact .inr rfl) (resR1 Tryz.results25 (by first | exact RV.cell rfl (eP_len _) | exact RV.cell rfl rfl | exact RV.cell1 rfl)) ⟨L2, none, 0, none, 0, rfl, rfl⟩ (by repeat first | exact tn_ | apply td_ rfl | apply tc_ | exact .here | apply Take1.there) (by repeat (first | exact Subs.refl | refine Subs.skip ?_))
  · have e : openF s m.r = (s, rp 4) := by unfold openF; rw [if_pos hm]
    rw [e] at hR
    subst hR
    rw [decide_eq_false hm]
    repeat (first | (apply G.ex (hd := rfl); case h => (first | exact Ex.assign rfl | exact Ex.notB rfl)) | refine G.nil ?_ | refine GC.seq ?_ | refine GC.region ?_ | refine GE.then_normal ?_ | refine GC.cond_t rfl ?_)
    first | refine G.call (caps := []) (no_sp 4) rfl rfl rfl rfl (by repeat first | exact tn_ | apply td_ rfl | apply tc_ | exact .here | apply Take1.there) ?_ | refine G.callU (caps := []) (no_sp 4) rfl rfl rfl (by repeat first | exact tn_ | apply td_ rfl | apply tc_ | exact .here | apply Take1.there) ?_
    rintro v_ give_ ⟨rfl, rfl⟩ rs_ hrs_
    simp only [List.cons_append, List.nil_append] at hrs_
    subst hrs_
    repeat (first | refine G.storeBA rfl rfl rfl rfl rfl ?_ | refine G.nil ?_ | refine GC.ret ?_ | refine GE.then_normal ?_ | refine GE.then_ret ?_ | refine GE.block_ret ?_)
    refine GE.nilvec 5 1 ?_
    refine GE.nilvec 9 1 ?_
    refine GE.ret (by first | exact .inl rfl | exact .inr rfl) (resR1 Tryz.results25 (by first | exact RV.cell rfl (eP_len _) | exact RV.cell rfl rfl | exact RV.cell1 rfl)) ⟨L, none, 0, none, 0, rfl, rfl⟩ (by repeat first | exact tn_ | apply td_ rfl | apply tc_ | exact .here | apply Take1.there) (by repeat (first | exact Subs.refl | refine Subs.skip ?_))
end serve
end Go.Proofs.YtmceappjldcbmaaGreatDoor
