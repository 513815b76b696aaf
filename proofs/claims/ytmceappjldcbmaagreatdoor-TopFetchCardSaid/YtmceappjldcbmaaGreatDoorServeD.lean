/-
  CONTRACTS of a server's reply, Do, of serve.New and Play, by the kit.
-/
import Derived.Test.YtmceappjldcbmaaGreatDoorServeB
import Derived.Test.YtmceappjldcbmaaGreatDoorServeC
namespace Go.Proofs.YtmceappjldcbmaaGreatDoor
open Go.RowKit
attribute [local irreducible] Ex G GC GE Gq FPost LPost
set_option linter.unusedVariables false
set_option linter.unusedSimpArgs false
namespace serve
open tree path msg
/-- the acts of requests that are just these, as they are laid -/
def plainG : Nat := 0
def plainV : List Value := [.int .i64 0, .int .i64 0, .int .i64 0, .int .i64 0, .int .i64 0, .int .i64 6, .int .i64 7, .int .i64 1, .int .i64 8, .int .i64 9, .int .i64 10]
abbrev PlainR : Res := .per (Laid plainG plainV)
theorem plain_at (K : Nat) (h : 5 ≤ K ∧ K ≤ 10) : plainV[0 + K]? = some (.int .i64 (plainK (K : Int))) := by
  have : K = 5 ∨ K = 6 ∨ K = 7 ∨ K = 8 ∨ K = 9 ∨ K = 10 := by omega
  rcases this with rfl | rfl | rfl | rfl | rfl | rfl <;> rfl
set_option maxHeartbeats 16000000 in
theorem reply_sp (s : Sv) (L : Nat → tree.Loc) (bs bt N : Nat) (k : SvOk s N) (hN : N ≤ 1000000) (m : Ms) (hr : RqOk m.r) (hm : m.r.data.length = m.n) (hhb : m.r.handle ≤ 9223372036854775807) :
    Spec Tryz.prog 21 [tree.ptr bs, .agg (eRq m).toArray] [SvB bs bt s.ps, TreeB s.t L bt, .own (NodesR s.t L), .sl m.ao m.n m.c 1 (flat eB m.r.data), PlainR] fun v give => ∃ L', RpP (replyF s m.r).2 [SvB bs bt (replyF s m.r).1.ps, TreeB (replyF s m.r).1.t L' bt, .own (NodesR (replyF s m.r).1.t L')] v give := by
  obtain ⟨R, hR⟩ : ∃ R, replyF s m.r = R := ⟨_, rfl⟩
  rw [hR]
  unfold replyF at hR
  have hpl : m.r.path.length ≤ 9223372036854775807 := Nat.le_trans hr.1 (by decide)
  have htl : m.r.to_.length ≤ 9223372036854775807 := Nat.le_trans hr.2.1 (by decide)
  refine Spec.intro Tryz.func21 rfl Tryz.ntmps21 rfl fun w0 rest rs_ hrs_ => ?_
  simp only [List.cons_append, List.nil_append] at hrs_
  subst hrs_
  repeat (first | refine GC.seq ?_ | refine GC.region ?_)
  refine G.box (cs := eRq m) rfl rfl rfl fun ab => ?_
  repeat (first | fail)
  refine G.alloc rfl (fun rb => ?_)
  by_cases h5 : 5 ≤ m.r.kind ∧ m.r.kind ≤ 10
  · rw [if_pos h5] at hR
    obtain ⟨ha, hb⟩ := h5
    obtain ⟨K, hK⟩ : ∃ K : Nat, m.r.kind = (K : Int) := ⟨m.r.kind.toNat, by omega⟩
    repeat (first | (apply G.ex (hd := rfl); case h => (first | exact Ex.move rfl | exact Ex.fieldB rfl | exact Ex.loadB rfl rfl | exact Ex.leq rfl rfl | exact Ex.geq rfl rfl | exact Ex.pickT rfl (by first | assumption | omega) rfl)) | refine G.g_tt rfl rfl (by first | assumption | omega) ?_ | refine G.nil ?_ | refine GC.seq ?_ | refine GC.region ?_ | refine GE.then_normal ?_ | refine GC.cond_yes rfl (by first | assumption | omega) ?_)
    refine GC.nilsl 1 ?_
    refine GC.drawA [] [SvB bs bt s.ps, .blk ab 39 (eRq m), PlainR] (by repeat first | exact tn_ | apply td_ rfl | apply tc_ | exact .here | apply Take1.there) (by kernel_rfl) ?_
    first | (apply GA.take [] (hD := .inl rfl) (hsub := ⟨_, Takes.nil⟩) (i := 0) (hi := rfl) (hs := by kernel_rfl) (hfr := by kernel_rfl) (hr := by kernel_rfl) (hQ := np_) (hd := rfl); case hx => (first | exact Ex.move rfl))
    first | (apply GA.take [] (hD := .inl rfl) (hsub := ⟨_, Takes.nil⟩) (i := 1) (hi := rfl) (hs := by kernel_rfl) (hfr := by kernel_rfl) (hr := by kernel_rfl) (hQ := np_) (hd := rfl); case hx => (first | exact Ex.nilCheck rfl))
    first | (apply GA.take [] (hD := .inl rfl) (hsub := ⟨_, Takes.nil⟩) (i := 2) (hi := rfl) (hs := by kernel_rfl) (hfr := by kernel_rfl) (hr := by kernel_rfl) (hQ := np_) (hd := rfl); case hx => (first | exact Ex.fieldB rfl))
    first | (apply GA.take _ (hD := .inr ⟨rfl, by kernel_rfl⟩) (hsub := ⟨_, (by repeat first | exact tn_ | apply td_ rfl | apply tc_ | exact .here | apply Take1.there)⟩) (i := 3) (hi := rfl) (hs := by kernel_rfl) (hfr := by kernel_rfl) (hr := by kernel_rfl) (hQ := np_) (hd := rfl); case hx => (first | exact Ex.loadB rfl rfl))
    first | (apply GA.take [] (hD := .inl rfl) (hsub := ⟨_, Takes.nil⟩) (i := 4) (hi := rfl) (hs := by kernel_rfl) (hfr := by kernel_rfl) (hr := by kernel_rfl) (hQ := np_) (hd := rfl); case hx => (first | exact Ex.fieldB rfl))
    first | (apply GA.take _ (hD := .inr ⟨rfl, by kernel_rfl⟩) (hsub := ⟨_, (by repeat first | exact tn_ | apply td_ rfl | apply tc_ | exact .here | apply Take1.there)⟩) (i := 5) (hi := rfl) (hs := by kernel_rfl) (hfr := by kernel_rfl) (hr := by kernel_rfl) (hQ := np_) (hd := rfl); case hx => (first | exact Ex.loadB rfl rfl))
    apply GA.take [] (hD := .inl rfl) (hsub := ⟨_, Takes.nil⟩) (i := 6) (hi := rfl) (hs := by kernel_rfl) (hfr := by kernel_rfl) (hr := by kernel_rfl) (hQ := np_) (hd := rfl) (hx := (Ex.indexPB (k := K) (b := plainG) (j := 0) rfl (by show some (Value.int .i64 m.r.kind) = _; rw [hK]) (by omega)))
    apply GA.take _ (hD := .inr ⟨rfl, by kernel_rfl⟩) (hsub := ⟨_, (by repeat first | exact tn_ | apply td_ rfl | apply tc_ | exact .here | apply Take1.there)⟩) (i := 7) (hi := rfl) (hs := by kernel_rfl) (hfr := by kernel_rfl) (hr := by kernel_rfl) (hQ := np_) (hd := rfl) (hx := (Ex.loadH rfl (fun w H => Laid.at_ (List.mem_cons_of_mem _ (List.mem_cons_of_mem _ (List.mem_cons_self ..))) (plain_at K (by omega)) H)))
    rw [← hK]
    first | (apply GA.take [] (hD := .inl rfl) (hsub := ⟨_, Takes.nil⟩) (i := 8) (hi := rfl) (hs := by kernel_rfl) (hfr := by kernel_rfl) (hr := by kernel_rfl) (hQ := np_) (hd := rfl); case hx => (first | exact Ex.fieldB rfl))
    first | (apply GA.take _ (hD := .inr ⟨rfl, by kernel_rfl⟩) (hsub := ⟨_, (by repeat first | exact tn_ | apply td_ rfl | apply tc_ | exact .here | apply Take1.there)⟩) (i := 9) (hi := rfl) (hs := by kernel_rfl) (hfr := by kernel_rfl) (hr := by kernel_rfl) (hQ := np_) (hd := rfl); case hx => (first | exact Ex.loadB rfl rfl))
    first | (apply GA.take [] (hD := .inl rfl) (hsub := ⟨_, Takes.nil⟩) (i := 10) (hi := rfl) (hs := by kernel_rfl) (hfr := by kernel_rfl) (hr := by kernel_rfl) (hQ := np_) (hd := rfl); case hx => (first | exact Ex.fieldB rfl))
    first | (apply GA.take _ (hD := .inr ⟨rfl, by kernel_rfl⟩) (hsub := ⟨_, (by repeat first | exact tn_ | apply td_ rfl | apply tc_ | exact .here | apply Take1.there)⟩) (i := 11) (hi := rfl) (hs := by kernel_rfl) (hfr := by kernel_rfl) (hr := by kernel_rfl) (hQ := np_) (hd := rfl); case hx => (first | exact Ex.loadB rfl rfl))
    first | (apply GA.take [] (hD := .inl rfl) (hsub := ⟨_, Takes.nil⟩) (i := 12) (hi := rfl) (hs := by kernel_rfl) (hfr := by kernel_rfl) (hr := by kernel_rfl) (hQ := np_) (hd := rfl); case hx => (first | exact Ex.build rfl rfl))
    refine GA.one (i := 13) (by kernel_rfl) rfl ?_
    first | refine G.call (caps := []) (tree.do_sp s.t L bt k.tr k.cn ⟨plainK m.r.kind, m.r.path, m.r.to_, 0, 0, []⟩ (.sl none 0 0 1 (flat eB [])) none 0 (Nat.zero_le _) hpl htl) rfl rfl rfl rfl (by repeat first | exact tn_ | apply td_ rfl | apply tc_ | exact .here | apply Take1.there) ?_ | refine G.callU (caps := []) (tree.do_sp s.t L bt k.tr k.cn ⟨plainK m.r.kind, m.r.path, m.r.to_, 0, 0, []⟩ (.sl none 0 0 1 (flat eB [])) none 0 (Nat.zero_le _) hpl htl) rfl rfl rfl (by repeat first | exact tn_ | apply td_ rfl | apply tc_ | exact .here | apply Take1.there) ?_
    rintro v_ give_ ⟨L', da, dc, na, nc, rfl, rfl⟩ rs_ hrs_
    simp only [List.cons_append, List.nil_append] at hrs_
    subst hrs_
    subst hR
    generalize doF s.t ⟨plainK m.r.kind, m.r.path, m.r.to_, 0, 0, []⟩ = D
    try refine G.nil ?_
    refine GA.back (by first | exact .inl (by decide) | exact .inr ⟨_, (by repeat first | exact tn_ | apply td_ rfl | apply tc_ | exact .here | apply Take1.there)⟩) ?_
    refine GA.one (i := 14) (by kernel_rfl) rfl ?_
    first | refine G.call (caps := []) (told_sp D.2 da dc na nc) rfl rfl rfl rfl (by repeat first | exact tn_ | apply td_ rfl | apply tc_ | exact .here | apply Take1.there) ?_ | refine G.callU (caps := []) (told_sp D.2 da dc na nc) rfl rfl rfl (by repeat first | exact tn_ | apply td_ rfl | apply tc_ | exact .here | apply Take1.there) ?_
    rintro v_ give_ ⟨rfl, rfl⟩ rs_ hrs_
    simp only [List.cons_append, List.nil_append] at hrs_
    subst hrs_
    try refine G.nil ?_
    refine GA.back (by first | exact .inl (by decide) | exact .inr ⟨_, (by repeat first | exact tn_ | apply td_ rfl | apply tc_ | exact .here | apply Take1.there)⟩) ?_
    refine GA.one (i := 15) (by kernel_rfl) rfl ?_
    repeat (first | refine G.storeBA rfl rfl rfl rfl rfl ?_ | refine G.nil ?_)
    try refine G.nil ?_
    refine GA.back (by first | exact .inl (by decide) | exact .inr ⟨_, (by repeat first | exact tn_ | apply td_ rfl | apply tc_ | exact .here | apply Take1.there)⟩) ?_
    refine GA.done (by kernel_rfl) ?_
    repeat (first | refine GC.ret ?_ | refine GE.then_normal ?_ | refine GE.then_ret ?_)
    refine GE.ret (by first | exact .inl rfl | exact .inr rfl) (resR1 Tryz.results21 (by first | exact RV.cell rfl (eP_len _) | exact RV.cell rfl rfl | exact RV.cell1 rfl)) ⟨L', da, dc, na, nc, rfl, rfl⟩ (by repeat first | exact tn_ | apply td_ rfl | apply tc_ | exact .here | apply Take1.there) (by repeat (first | exact Subs.refl | refine Subs.skip ?_))
  · rw [if_neg h5] at hR
    repeat ((fail_if_success (refine GC.seq ?_; refine GC.region (id := 1) ?_)); first | refine G.nil ?_ | refine GC.seq ?_ | refine GE.then_normal ?_)
    refine GC.meet (ι := Unit) (fun _ => True) (fun _ => [(0, tree.ptr bs), (3, tree.ptr ab), (4, tree.ptr rb)]) (fun _ => [SvB bs bt s.ps, TreeB s.t L bt, .own (NodesR s.t L), .sl m.ao m.n m.c 1 (flat eB m.r.data), .blk ab 39 (eRq m), .blk rb 45 (eRp (rp 0) none 0 none 0)]) rest ?_ ?_
    · by_cases h5a : 5 ≤ m.r.kind
      · have h5b : ¬ m.r.kind ≤ 10 := fun h => h5 ⟨h5a, h⟩
        repeat (first | (apply G.ex (hd := rfl); case h => (first | exact Ex.move rfl | exact Ex.fieldB rfl | exact Ex.loadB rfl rfl | exact Ex.leq rfl rfl | exact Ex.geq rfl rfl | exact Ex.pickT rfl (by first | assumption | omega) rfl)) | refine G.g_tt rfl rfl (by first | assumption | omega) ?_ | refine G.nil ?_ | refine GC.seq ?_ | refine GC.region ?_ | refine GC.skip ?_ | refine GE.then_normal ?_ | refine GC.cond_no rfl (by first | assumption | omega) ?_)
        refine GE.meet () trivial (by simp only [fits]; repeat (first | exact trivial | refine And.intro rfl ?_)) (by repeat first | exact tn_ | apply td_ rfl | apply tc_ | exact .here | apply Take1.there) (by repeat (first | exact Subs.refl | refine Subs.skip ?_))
      · repeat (first | (apply G.ex (hd := rfl); case h => (first | exact Ex.move rfl | exact Ex.fieldB rfl | exact Ex.loadB rfl rfl | exact Ex.geq rfl rfl | exact Ex.pickF rfl (by first | assumption | omega) rfl)) | refine G.g_tf rfl rfl (by first | assumption | omega) rfl ?_ | refine G.nil ?_ | refine GC.seq ?_ | refine GC.region ?_ | refine GC.skip ?_ | refine GE.then_normal ?_ | refine GC.cond_f rfl ?_)
        refine GE.meet () trivial (by simp only [fits]; repeat (first | exact trivial | refine And.intro rfl ?_)) (by repeat first | exact tn_ | apply td_ rfl | apply tc_ | exact .here | apply Take1.there) (by repeat (first | exact Subs.refl | refine Subs.skip ?_))
    rintro u - fr_ rs_ hfr_ hrs_
    simp only [List.cons_append, List.nil_append] at hfr_ hrs_
    subst hfr_ hrs_
    by_cases k1 : m.r.kind = 1
    · rw [if_pos k1] at hR
      repeat (first | (apply G.ex (hd := rfl); case h => (first | exact Ex.move rfl | exact Ex.fieldB rfl | exact Ex.loadB rfl rfl | exact Ex.eqI rfl rfl | exact Ex.assign rfl | exact Ex.loadBA rfl rfl rfl)) | refine G.nil ?_ | refine GC.seq ?_ | refine GC.region ?_ | refine GC.block ?_ | refine GE.then_normal ?_ | refine GC.cond_yes rfl (by first | assumption | omega) ?_)
      first | refine G.call (caps := []) (open_sp s L bs bt N k hN m hr) rfl rfl rfl rfl (by repeat first | exact tn_ | apply td_ rfl | apply tc_ | exact .here | apply Take1.there) ?_ | refine G.callU (caps := []) (open_sp s L bs bt N k hN m hr) rfl rfl rfl (by repeat first | exact tn_ | apply td_ rfl | apply tc_ | exact .here | apply Take1.there) ?_
      rintro v_ give_ ⟨L', da, dc, na, nc, rfl, rfl⟩ rs_ hrs_
      simp only [List.cons_append, List.nil_append] at hrs_
      subst hrs_
      repeat (first | refine G.storeBA rfl rfl rfl rfl rfl ?_ | refine G.nil ?_ | refine GC.ret ?_ | refine GE.then_normal ?_ | refine GE.then_ret ?_ | refine GE.block_ret ?_)
      subst hR
      refine GE.ret (by first | exact .inl rfl | exact .inr rfl) (resR1 Tryz.results21 (by first | exact RV.cell rfl (eP_len _) | exact RV.cell rfl rfl | exact RV.cell1 rfl)) ⟨L', da, dc, na, nc, rfl, rfl⟩ (by repeat first | exact tn_ | apply td_ rfl | apply tc_ | exact .here | apply Take1.there) (by repeat (first | exact Subs.refl | refine Subs.skip ?_))
    · rw [if_neg k1] at hR
      by_cases k2 : 2 ≤ m.r.kind ∧ m.r.kind ≤ 4
      · rw [if_pos k2] at hR
        have hc : m.r.kind = 2 ∨ m.r.kind = 3 ∨ m.r.kind = 4 := by omega
        rcases hc with hc | hc | hc
        · repeat (first | (apply G.ex (hd := rfl); case h => (first | exact Ex.move rfl | exact Ex.fieldB rfl | exact Ex.loadB rfl rfl | exact Ex.eqI rfl rfl | exact Ex.assign rfl | exact Ex.loadBA rfl rfl rfl)) | refine G.nil ?_ | refine GC.seq ?_ | refine GC.region ?_ | refine GC.block ?_ | refine GC.skip ?_ | refine GE.then_normal ?_ | refine GC.cond_yes rfl (by first | assumption | omega) ?_ | refine GC.cond_no rfl (by first | assumption | omega) ?_)
          first | refine G.call (caps := []) (handle_sp s L bs bt N k hN m hr hm hhb k2) rfl rfl rfl rfl (by repeat first | exact tn_ | apply td_ rfl | apply tc_ | exact .here | apply Take1.there) ?_ | refine G.callU (caps := []) (handle_sp s L bs bt N k hN m hr hm hhb k2) rfl rfl rfl (by repeat first | exact tn_ | apply td_ rfl | apply tc_ | exact .here | apply Take1.there) ?_
          rintro v_ give_ ⟨L', da, dc, na, nc, rfl, rfl⟩ rs_ hrs_
          simp only [List.cons_append, List.nil_append] at hrs_
          subst hrs_
          repeat (first | refine G.storeBA rfl rfl rfl rfl rfl ?_ | refine G.nil ?_ | refine GC.ret ?_ | refine GE.then_normal ?_ | refine GE.then_ret ?_ | refine GE.block_ret ?_)
          subst hR
          refine GE.ret (by first | exact .inl rfl | exact .inr rfl) (resR1 Tryz.results21 (by first | exact RV.cell rfl (eP_len _) | exact RV.cell rfl rfl | exact RV.cell1 rfl)) ⟨L', da, dc, na, nc, rfl, rfl⟩ (by repeat first | exact tn_ | apply td_ rfl | apply tc_ | exact .here | apply Take1.there) (by repeat (first | exact Subs.refl | refine Subs.skip ?_))
        · have n2 : ¬ m.r.kind = 2 := by omega
          repeat (first | (apply G.ex (hd := rfl); case h => (first | exact Ex.move rfl | exact Ex.fieldB rfl | exact Ex.loadB rfl rfl | exact Ex.eqI rfl rfl | exact Ex.assign rfl | exact Ex.loadBA rfl rfl rfl)) | refine G.nil ?_ | refine GC.seq ?_ | refine GC.region ?_ | refine GC.block ?_ | refine GC.skip ?_ | refine GE.then_normal ?_ | refine GC.cond_yes rfl (by first | assumption | omega) ?_ | refine GC.cond_no rfl (by first | assumption | omega) ?_)
          first | refine G.call (caps := []) (handle_sp s L bs bt N k hN m hr hm hhb k2) rfl rfl rfl rfl (by repeat first | exact tn_ | apply td_ rfl | apply tc_ | exact .here | apply Take1.there) ?_ | refine G.callU (caps := []) (handle_sp s L bs bt N k hN m hr hm hhb k2) rfl rfl rfl (by repeat first | exact tn_ | apply td_ rfl | apply tc_ | exact .here | apply Take1.there) ?_
          rintro v_ give_ ⟨L', da, dc, na, nc, rfl, rfl⟩ rs_ hrs_
          simp only [List.cons_append, List.nil_append] at hrs_
          subst hrs_
          repeat (first | refine G.storeBA rfl rfl rfl rfl rfl ?_ | refine G.nil ?_ | refine GC.ret ?_ | refine GE.then_normal ?_ | refine GE.then_ret ?_ | refine GE.block_ret ?_)
          subst hR
          refine GE.ret (by first | exact .inl rfl | exact .inr rfl) (resR1 Tryz.results21 (by first | exact RV.cell rfl (eP_len _) | exact RV.cell rfl rfl | exact RV.cell1 rfl)) ⟨L', da, dc, na, nc, rfl, rfl⟩ (by repeat first | exact tn_ | apply td_ rfl | apply tc_ | exact .here | apply Take1.there) (by repeat (first | exact Subs.refl | refine Subs.skip ?_))
        · have n2 : ¬ m.r.kind = 2 := by omega
          have n3 : ¬ m.r.kind = 3 := by omega
          repeat (first | (apply G.ex (hd := rfl); case h => (first | exact Ex.move rfl | exact Ex.fieldB rfl | exact Ex.loadB rfl rfl | exact Ex.eqI rfl rfl | exact Ex.assign rfl | exact Ex.loadBA rfl rfl rfl)) | refine G.nil ?_ | refine GC.seq ?_ | refine GC.region ?_ | refine GC.block ?_ | refine GE.then_normal ?_ | refine GC.cond_yes rfl (by first | assumption | omega) ?_ | refine GC.cond_no rfl (by first | assumption | omega) ?_)
          first | refine G.call (caps := []) (handle_sp s L bs bt N k hN m hr hm hhb k2) rfl rfl rfl rfl (by repeat first | exact tn_ | apply td_ rfl | apply tc_ | exact .here | apply Take1.there) ?_ | refine G.callU (caps := []) (handle_sp s L bs bt N k hN m hr hm hhb k2) rfl rfl rfl (by repeat first | exact tn_ | apply td_ rfl | apply tc_ | exact .here | apply Take1.there) ?_
          rintro v_ give_ ⟨L', da, dc, na, nc, rfl, rfl⟩ rs_ hrs_
          simp only [List.cons_append, List.nil_append] at hrs_
          subst hrs_
          repeat (first | refine G.storeBA rfl rfl rfl rfl rfl ?_ | refine G.nil ?_ | refine GC.ret ?_ | refine GE.then_normal ?_ | refine GE.then_ret ?_ | refine GE.block_ret ?_)
          subst hR
          refine GE.ret (by first | exact .inl rfl | exact .inr rfl) (resR1 Tryz.results21 (by first | exact RV.cell rfl (eP_len _) | exact RV.cell rfl rfl | exact RV.cell1 rfl)) ⟨L', da, dc, na, nc, rfl, rfl⟩ (by repeat first | exact tn_ | apply td_ rfl | apply tc_ | exact .here | apply Take1.there) (by repeat (first | exact Subs.refl | refine Subs.skip ?_))
      · rw [if_neg k2] at hR
        have n2 : ¬ m.r.kind = 2 := by omega
        have n3 : ¬ m.r.kind = 3 := by omega
        have n4 : ¬ m.r.kind = 4 := by omega
        subst hR
        repeat (first | (apply G.ex (hd := rfl); case h => (first | exact Ex.fieldB rfl | exact Ex.loadB rfl rfl | exact Ex.eqI rfl rfl | exact Ex.assign rfl)) | refine G.nil ?_ | refine GC.seq ?_ | refine GC.region ?_ | refine GC.block ?_ | refine GC.skip ?_ | refine GE.then_normal ?_ | refine GE.block_normal ?_ | refine GC.cond_no rfl (by first | assumption | omega) ?_)
        first | refine G.call (caps := []) (no_sp 3) rfl rfl rfl rfl (by repeat first | exact tn_ | apply td_ rfl | apply tc_ | exact .here | apply Take1.there) ?_ | refine G.callU (caps := []) (no_sp 3) rfl rfl rfl (by repeat first | exact tn_ | apply td_ rfl | apply tc_ | exact .here | apply Take1.there) ?_
        rintro v_ give_ ⟨rfl, rfl⟩ rs_ hrs_
        simp only [List.cons_append, List.nil_append] at hrs_
        subst hrs_
        repeat (first | refine G.storeBA rfl rfl rfl rfl rfl ?_ | refine G.nil ?_ | refine GC.ret ?_ | refine GE.then_normal ?_)
        refine GE.nilvec 5 1 ?_
        refine GE.nilvec 9 1 ?_
        refine GE.ret (by first | exact .inl rfl | exact .inr rfl) (resR1 Tryz.results21 (by first | exact RV.cell rfl (eP_len _) | exact RV.cell rfl rfl | exact RV.cell1 rfl)) ⟨L, none, 0, none, 0, rfl, rfl⟩ (by repeat first | exact tn_ | apply td_ rfl | apply tc_ | exact .here | apply Take1.there) (by repeat (first | exact Subs.refl | refine Subs.skip ?_))
theorem sdo_sp (s : Sv) (L : Nat → tree.Loc) (bs bt N : Nat) (k : SvOk s N) (hN : N ≤ 1000000) (m : Ms) (hr : RqOk m.r) (hm : m.r.data.length = m.n) (hhb : m.r.handle ≤ 9223372036854775807) :
    Spec Tryz.prog 13 [tree.ptr bs, .agg (eRq m).toArray] [SvB bs bt s.ps, TreeB s.t L bt, .own (NodesR s.t L), .sl m.ao m.n m.c 1 (flat eB m.r.data), PlainR] fun v give => ∃ L', RpP (svF s m.r).2 [SvB bs bt (svF s m.r).1.ps, TreeB (svF s m.r).1.t L' bt, .own (NodesR (svF s m.r).1.t L')] v give := by
  refine Spec.intro Tryz.func13 rfl Tryz.ntmps13 rfl fun w0 rest rs_ hrs_ => ?_
  simp only [List.cons_append, List.nil_append] at hrs_
  subst hrs_
  repeat (first | refine GC.seq ?_ | refine GC.region ?_)
  refine G.box (cs := eRq m) rfl rfl rfl fun ab => ?_
  repeat (first | fail)
  refine G.alloc rfl (fun rb => ?_)
  repeat (first | (apply G.ex (hd := rfl); case h => (first | exact Ex.move rfl | exact Ex.loadBA rfl rfl rfl)) | refine G.nil ?_ | refine GC.seq ?_ | refine GC.region ?_ | refine GE.then_normal ?_)
  first | refine G.call (caps := []) (reply_sp s L bs bt N k hN m hr hm hhb) rfl rfl rfl rfl (by repeat first | exact tn_ | apply td_ rfl | apply tc_ | exact .here | apply Take1.there) ?_ | refine G.callU (caps := []) (reply_sp s L bs bt N k hN m hr hm hhb) rfl rfl rfl (by repeat first | exact tn_ | apply td_ rfl | apply tc_ | exact .here | apply Take1.there) ?_
  rintro v_ give_ ⟨L', da, dc, na, nc, rfl, rfl⟩ rs_ hrs_
  simp only [List.cons_append, List.nil_append] at hrs_
  subst hrs_
  refine G.alloc rfl (fun tb => ?_)
  repeat (first | refine G.storeB rfl rfl rfl rfl rfl ?_ | refine G.storeBA rfl rfl rfl rfl rfl ?_ | (apply G.ex (hd := rfl); case h => (first | exact Ex.fieldB rfl | exact Ex.loadB rfl rfl | exact Ex.loadBA rfl rfl rfl)) | refine G.nil ?_ | refine GC.seq ?_ | refine GC.region ?_ | refine GC.ret ?_ | refine GE.then_normal ?_)
  refine GE.ret (by first | exact .inl rfl | exact .inr rfl) (resR1 Tryz.results13 (by first | exact RV.cell rfl (eP_len _) | exact RV.cell rfl rfl | exact RV.cell1 rfl)) ⟨L', da, dc, na, nc, rfl, rfl⟩ (by repeat first | exact tn_ | apply td_ rfl | apply tc_ | exact .here | apply Take1.there) (by repeat (first | exact Subs.refl | refine Subs.skip ?_))
theorem snew_sp : Spec Tryz.prog 12 [] [] fun v give => ∃ bs bt L, v = tree.ptr bs ∧ give = [SvB bs bt svNew.ps, TreeB svNew.t L bt, .own (NodesR svNew.t L)] := by
  refine Spec.intro Tryz.func12 rfl Tryz.ntmps12 rfl fun w0 rest rs_ hrs_ => ?_
  simp only [List.cons_append, List.nil_append] at hrs_
  subst hrs_
  repeat (first | (apply G.ex (hd := rfl); case h => (first | exact Ex.assign rfl)) | refine G.nil ?_ | refine GC.seq ?_ | refine GC.region ?_ | refine GE.then_normal ?_)
  first | refine G.call (caps := []) (tree.new_sp) rfl rfl rfl rfl (by repeat first | exact tn_ | apply td_ rfl | apply tc_ | exact .here | apply Take1.there) ?_ | refine G.callU (caps := []) (tree.new_sp) rfl rfl rfl (by repeat first | exact tn_ | apply td_ rfl | apply tc_ | exact .here | apply Take1.there) ?_
  rintro v_ give_ ⟨bt, L, rfl, rfl⟩ rs_ hrs_
  simp only [List.cons_append, List.nil_append] at hrs_
  subst hrs_
  repeat (first | (apply G.ex (hd := rfl); case h => (first | exact Ex.build rfl rfl)))
  refine G.box (cs := svC bt svNew.ps) rfl rfl rfl fun bs => ?_
  repeat (first | (apply G.ex (hd := rfl); case h => (first | exact Ex.assign rfl)) | refine G.nil ?_ | refine GC.ret ?_ | refine GE.then_normal ?_)
  refine GE.ret (by first | exact .inl rfl | exact .inr rfl) (res1 Tryz.results12 rfl) ⟨bs, bt, L, rfl, rfl⟩ (by repeat first | exact tn_ | apply td_ rfl | apply tc_ | exact .here | apply Take1.there) (by repeat (first | exact Subs.refl | refine Subs.skip ?_))
/-- requests and replies as rows -/
instance : Inhabited Ms := ⟨⟨Rq.zero, none, 0, 0⟩⟩
def dM (m : Ms) : SlD UInt8 := ⟨m.ao, m.n, m.c, m.r.data⟩
structure RpM where
  x : Rp
  da : Option Addr
  dc : Nat
  na : Option Addr
  nc : Nat
instance : Inhabited RpM := ⟨⟨default, none, 0, none, 0⟩⟩
def eRpM (x : RpM) : List Value := eRp x.x x.da x.dc x.na x.nc
instance : Enc eRpM 7 := ⟨fun _ => rfl, fun x u hu => by simp [eRpM, eRp] at hu; rcases hu with rfl | rfl | rfl | rfl | rfl | rfl | rfl <;> rfl⟩
def dR (x : RpM) : SlD UInt8 := ⟨x.da, x.x.d.length, x.dc, x.x.d⟩
def nR (x : RpM) : SlD Nm := ⟨x.na, x.x.names.length, x.nc, x.x.names⟩
def MsOk (m : Ms) : Prop := RqOk m.r ∧ m.r.data.length = m.n ∧ m.r.handle ≤ 9223372036854775807
theorem stakes_cons (t : Sv) (l : List Rq) (k : Nat) (hk : k < l.length) : sruns t (l.take (k + 1)) = sruns t (l.take k) ++ [(svF (sends t (l.take k)) (l.getD k default)).2] ∧ sends t (l.take (k + 1)) = (svF (sends t (l.take k)) (l.getD k default)).1 := by
  have e : l.take (k + 1) = l.take k ++ [l.getD k default] := by
    rw [List.take_succ_eq_append_getElem hk, List.getD_eq_getElem?_getD, List.getElem?_eq_getElem hk]; rfl
  rw [e, sruns_app, sends_app]; exact ⟨rfl, rfl⟩
set_option maxHeartbeats 8000000 in
theorem splay_sp (r : Res) (ao : Option Addr) (n c : Nat) (A : List Ms) (hl : A.length = n) (hn : n ≤ 300) [hR : RdR r ao n c 9 (flat eRq A)] (hA : ∀ x ∈ A, MsOk x) :
    Spec Tryz.prog 8 [.slice ao n c] [r, .per (Rd eB 1 (A.map dM)), PlainR] fun v give => ∃ (S : List RpM) (o : Option Addr) (oc : Nat), S.map (·.x) = sruns svNew (A.map (·.r)) ∧ v = .tuple #[.slice o n oc, .int .i64 0] ∧ give = [.vec 45 7 o n oc (flat eRpM S), .per (Rd eB 1 (S.map dR)), .per (Rd eO 1 (S.map nR)), r, .per (Rd eB 1 (A.map dM))] := by
  refine Spec.intro Tryz.func8 rfl Tryz.ntmps8 rfl fun w0 rest rs_ hrs_ => ?_
  simp only [List.cons_append, List.nil_append] at hrs_
  subst hrs_
  repeat (first | (apply G.ex (hd := rfl); case h => (first | exact Ex.move rfl | exact Ex.gtr rfl rfl | exact Ex.lenSl rfl | exact Ex.assign rfl)) | refine G.nil ?_ | refine GC.seq ?_ | refine GC.region ?_ | refine GC.skip ?_ | refine GE.then_normal ?_ | refine GC.cond_no rfl (by first | assumption | omega) ?_)
  first | refine G.call (caps := []) (snew_sp) rfl rfl rfl rfl (by repeat first | exact tn_ | apply td_ rfl | apply tc_ | exact .here | apply Take1.there) ?_ | refine G.callU (caps := []) (snew_sp) rfl rfl rfl (by repeat first | exact tn_ | apply td_ rfl | apply tc_ | exact .here | apply Take1.there) ?_
  rintro v_ give_ ⟨bs, bt, L0, rfl, rfl⟩ rs_ hrs_
  simp only [List.cons_append, List.nil_append] at hrs_
  subst hrs_
  refine G.conv (fun w_ H_ => Holds.rdNil eO 1 H_) ?_
  refine G.conv (fun w_ H_ => Holds.rdNil eB 1 H_) ?_
  first | refine G.nilvec 45 7 ?_ | refine GC.nilvec 45 7 ?_
  repeat (first | (apply G.ex (hd := rfl); case h => (first | exact Ex.move rfl | exact Ex.lenSl rfl | exact Ex.assign rfl)) | refine G.nil ?_ | refine GC.seq ?_ | refine GC.region ?_ | refine GC.block ?_ | refine GE.then_normal ?_)
  have hLl : (A.map (·.r)).length = n := by rw [List.length_map]; exact hl
  refine GC.loop (ι := Nat × List RpM × (Nat → tree.Loc) × Option Addr × Nat) (fun x => x.1 ≤ n ∧ x.2.1.map (·.x) = sruns svNew ((A.map (·.r)).take x.1) ∧ x.2.1.length = x.1) (fun x => n - x.1) (fun x => [(4, tree.ptr bs), (5, .slice x.2.2.2.1 x.1 x.2.2.2.2), (12, .slice ao n c), (13, .int .i64 (n : Int)), (14, .int .i64 (x.1 : Int))]) (fun x => [SvB bs bt (sends svNew ((A.map (·.r)).take x.1)).ps, TreeB (sends svNew ((A.map (·.r)).take x.1)).t x.2.2.1 bt, .own (NodesR (sends svNew ((A.map (·.r)).take x.1)).t x.2.2.1), .vec 45 7 x.2.2.2.1 x.1 x.2.2.2.2 (flat eRpM x.2.1), .per (Rd eB 1 (x.2.1.map dR)), .per (Rd eO 1 (x.2.1.map nR)), r, .per (Rd eB 1 (A.map dM)), PlainR]) (0, [], L0, none, 0) ⟨Nat.zero_le _, rfl, rfl⟩ (by simp only [fits]; repeat (first | exact trivial | refine And.intro rfl ?_)) (by repeat first | exact tn_ | apply td_ rfl | apply tc_ | exact .here | apply Take1.there) ?_
  rintro ⟨k, S, L, o, oc⟩ ⟨hk, hS, hSl⟩ fr_ rs_ hfr_ hrs_
  simp only [List.cons_append, List.nil_append] at hfr_ hrs_
  subst hfr_ hrs_
  simp only at hk hS hSl
  repeat (first | (apply G.ex (hd := rfl); case h => (first | exact Ex.lss rfl rfl)) | refine G.nil ?_ | refine GC.seq ?_ | refine GC.region ?_ | refine GE.then_normal ?_)
  refine GC.cond_dec rfl (fun hlt => ?_) (fun hlt => ?_)
  · have hlt : k < n := by omega
    have hdk : (A.map dM).getD k default = dM (A.getD k default) := getD_map _ _ _ (by omega)
    have hak : (A.map (·.r)).getD k default = (A.getD k default).r := getD_map _ _ _ (by omega)
    have hmk := hA (A.getD k default) (getD_mem (by omega))
    obtain ⟨hruns, hends⟩ := stakes_cons svNew (A.map (·.r)) k (by omega)
    rw [hak] at hruns hends
    have hok := SvOk.ends ((A.map (·.r)).take k) SvOk.new (fun x hx => by
      obtain ⟨y, hy, rfl⟩ := List.mem_map.1 (List.mem_of_mem_take hx)
      exact (hA y hy).1)
    have hkn : 0 + ((A.map (·.r)).take k).length ≤ 1000000 := by rw [List.length_take]; omega
    generalize 0 + ((A.map (·.r)).take k).length = N at hok hkn
    refine GC.conv (fun w_ H_ => H_.rdAt (l := A.map dM) (enc := eB) (s := 1) (by simp) k (by rw [List.length_map]; omega)) ?_
    rw [hdk]
    repeat (first | (apply G.ex (hd := rfl); case h => (first | exact Ex.indexN rfl rfl (by first | omega | (simp; done) | (simp; omega)) | exact Ex.loadTA rfl (by first | omega | (simp; done) | (simp; omega)))) | refine GC.seq ?_ | refine GC.region ?_ | refine GC.block ?_ | refine GC.skip ?_ | refine GE.then_normal ?_)
    refine G.alloc rfl (fun ab => ?_)
    repeat (first | refine G.storeBA rfl rfl rfl rfl rfl ?_ | (apply G.ex (hd := rfl); case h => (first | exact Ex.move rfl | exact Ex.loadBA rfl rfl rfl)) | refine G.nil ?_ | refine GC.region ?_ | refine GE.then_normal ?_)
    generalize A.getD k default = x at *
    generalize sends svNew ((A.map (·.r)).take k) = T at *
    first | refine G.call (caps := []) (sdo_sp T L bs bt N hok hkn x hmk.1 hmk.2.1 hmk.2.2) rfl rfl rfl rfl (by repeat first | exact tn_ | apply td_ rfl | apply tc_ | exact .here | apply Take1.there) ?_ | refine G.callU (caps := []) (sdo_sp T L bs bt N hok hkn x hmk.1 hmk.2.1 hmk.2.2) rfl rfl rfl (by repeat first | exact tn_ | apply td_ rfl | apply tc_ | exact .here | apply Take1.there) ?_
    rintro v_ give_ ⟨L', sa, sc, na, nc, rfl, rfl⟩ rs_ hrs_
    simp only [List.cons_append, List.nil_append] at hrs_
    subst hrs_
    rw [← hends]
    generalize (svF T x.r).2 = ss at *
    have hcat : flat eRpM S ++ flat eRpM [(⟨ss, sa, sc, na, nc⟩ : RpM)] = flat eRpM (S ++ [⟨ss, sa, sc, na, nc⟩]) := (flat_append ..).symm
    refine G.lit (cells := flat eRpM [(⟨ss, sa, sc, na, nc⟩ : RpM)]) rfl (by rfl) (by rfl) (by rfl) (by rfl) (by rfl) (by rfl) rfl (fun q => ?_)
    refine G.app rfl rfl (by rfl) (by omega) rfl (hcat) (fun o2 oc2 rs_ hrs_ => ?_)
    try simp only at hrs_
    subst hrs_
    refine G.frz sa ?_
    refine G.frz na ?_
    refine G.conv (fun w_ H_ => Holds.rdSnoc (x := ⟨sa, ss.d.length, sc, ss.d⟩) (H_.take (need := [.sl sa ss.d.length sc 1 (flat eB ss.d), .per (Rd eB 1 (S.map dR))]) (by repeat first | exact tn_ | apply td_ rfl | apply tc_ | exact .here | apply Take1.there))) ?_
    try simp only [List.append_eq, List.nil_append, List.cons_append]
    refine G.conv (fun w_ H_ => Holds.rdSnoc (x := ⟨na, ss.names.length, nc, ss.names⟩) (H_.take (need := [.sl na ss.names.length nc 1 (flat eO ss.names), .per (Rd eO 1 (S.map nR))]) (by repeat first | exact tn_ | apply td_ rfl | apply tc_ | exact .here | apply Take1.there))) ?_
    try simp only [List.append_eq, List.nil_append, List.cons_append]
    rw [show S.map dR ++ [⟨sa, ss.d.length, sc, ss.d⟩] = (S ++ [(⟨ss, sa, sc, na, nc⟩ : RpM)]).map dR by rw [List.map_append]; rfl, show S.map nR ++ [⟨na, ss.names.length, nc, ss.names⟩] = (S ++ [(⟨ss, sa, sc, na, nc⟩ : RpM)]).map nR by rw [List.map_append]; rfl]
    repeat (first | (apply G.ex (hd := rfl); case h => (first | exact Ex.move rfl | exact Ex.add rfl rfl (by omega) | exact Ex.assign rfl)) | refine G.nil ?_ | refine GC.region ?_ | refine GE.then_normal ?_ | refine GE.block_normal ?_)
    rw [show (k : Int) + 1 = ((k + 1 : Nat) : Int) by omega]
    refine GE.loop (k + 1, S ++ [⟨ss, sa, sc, na, nc⟩], L', o2, oc2) ⟨by simp only; omega, by simp only; rw [List.map_append, hS, hruns]; rfl, by simp only [List.length_append, hSl]; rfl⟩ (by simp only; omega) (by simp only [fits]; repeat (first | exact trivial | refine And.intro rfl ?_)) (by repeat first | exact tn_ | apply td_ rfl | apply tc_ | exact .here | apply Take1.there) (by repeat (first | exact Subs.refl | refine Subs.skip ?_))
  · obtain rfl : k = n := by omega
    rw [List.take_of_length_le (by omega)] at hS
    repeat (first | (apply G.ex (hd := rfl); case h => (first | exact Ex.move rfl | exact Ex.assign rfl)) | refine G.nil ?_ | refine GC.seq ?_ | refine GC.region ?_ | refine GC.ret ?_ | refine GC.exit ?_ | refine GE.then_normal ?_ | refine GE.then_exit ?_ | refine GE.block_hit ?_)
    refine GE.ret (by first | exact .inl rfl | exact .inr rfl) (res2 Tryz.results8 rfl rfl) ⟨S, o, oc, hS, rfl, rfl⟩ (by repeat first | exact tn_ | apply td_ rfl | apply tc_ | exact .here | apply Take1.there) (by repeat (first | exact Subs.refl | refine Subs.skip ?_))
end serve
end Go.Proofs.YtmceappjldcbmaaGreatDoor
