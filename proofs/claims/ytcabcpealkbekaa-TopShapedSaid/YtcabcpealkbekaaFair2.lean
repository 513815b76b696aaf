/-
  CONTRACT of (*fair.ring).comes, by the kit.
-/
import Derived.Test.YtcabcpealkbekaaFair
namespace Go.Proofs.Ytcabcpealkbekaa
open Go.RowKit
attribute [local irreducible] Ex G GC GE Gq FPost LPost
set_option linter.unusedVariables false
set_option linter.unusedSimpArgs false

namespace fair
theorem map_ab_at (fs : List Fl) (i : Nat) (h : i < fs.length) : at_ (fs.map ab) i = ab (fs.getD i default) := by
  unfold at_
  rw [List.getD_eq_getElem?_getD, List.getD_eq_getElem?_getD, List.getElem?_map, List.getElem?_eq_getElem h]; rfl
theorem fl_mem (fs : List Fl) (i : Nat) (h : i < fs.length) : fs.getD i default ∈ fs := by
  rw [List.getD_eq_getElem?_getD, List.getElem?_eq_getElem h]; exact List.getElem_mem h
theorem wvs_at (fs : List Fl) (i : Nat) (h : i < fs.length) : (wvs fs)[i]'(by simpa [wvs] using h) = wv (fs.getD i default).w := by
  simp [wvs, List.getD_eq_getElem?_getD, List.getElem?_eq_getElem h]
theorem wvs_set (fs : List Fl) (i : Nat) (x : Fl) : (wvs fs).set i (wv x.w) = wvs (fs.set i x) := by simp [wvs, List.map_set]
theorem Fits.set {fs : List Fl} (h : Fits fs) {i : Nat} {x : Fl} (hx : x.w.l.length = x.w.n) : Fits (fs.set i x) := ⟨fun y hy => by
  rcases List.mem_or_eq_of_mem_set hy with hy | rfl
  · exact h.n y hy
  · exact hx⟩
set_option maxHeartbeats 4000000 in
theorem comes_sp (rb : Nat) (fo : Option Addr) (fc : Nat) (to_ : Option Addr) (tc : Nat) (fs : List Fl) (T : List Nat) (hf : Fits fs) (hw : Wf (fs.map ab, T)) (i : Nat) (hi : i < fs.length) (z : Int) (hz : 1 ≤ z ∧ z ≤ 1500) :
    Spec Try.prog 44 [.pointer (some (badr rb 0)), .agg #[.int .i64 (i : Int), .int .i64 z]] [.blk rb 105 [.slice fo fs.length fc, .slice to_ T.length tc], .vec 107 4 fo fs.length fc (flat eF fs), .vec 3 1 to_ T.length tc (flat eN T), .own (Star (wvs fs))]
      fun v give => ∃ to2 tc2 fs2 T2, v = .agg (eV (comes (fs.map ab, T) i z).2 0 0).toArray ∧ Fits fs2 ∧ (fs2.map ab, T2) = (comes (fs.map ab, T) i z).1 ∧ fs2.length = fs.length ∧ give = [.blk rb 105 [.slice fo fs2.length fc, .slice to2 T2.length tc2], .vec 107 4 fo fs2.length fc (flat eF fs2), .vec 3 1 to2 T2.length tc2 (flat eN T2), .own (Star (wvs fs2))] := by
  have hT6 : T.length ≤ 6 := turn_len hw
  have hfl := hw.fl _ (at_mem (by simpa using hi))
  rw [map_ab_at fs i hi] at hfl
  have hn := hf.n _ (fl_mem fs i hi)
  have h6 : fs.length ≤ 6 := by simpa using hw.len
  have hl40 : (fs.getD i default).w.n ≤ 40 := by rw [← hn]; exact hfl.len
  unfold comes
  rw [map_ab_at fs i hi]
  refine Spec.intro Try.func44 rfl Try.ntmps44 rfl fun w0 rest rs_ hrs_ => ?_
  simp only [List.cons_append, List.nil_append] at hrs_
  subst hrs_
  repeat (first | refine GC.seq ?_ | refine GC.region ?_)
  refine G.box rfl rfl rfl (fun b => ?_)
  refine G.alloc rfl (fun r => ?_)
  repeat (first | (apply G.ex (hd := rfl); case h => (first | exact Ex.move rfl | exact Ex.nilCheck rfl | exact Ex.fieldE rfl | exact Ex.eqI rfl rfl | exact Ex.lenSl rfl | exact Ex.loadT rfl (by first | omega | (simp; done) | (simp; omega)) rfl | exact Ex.assign rfl)) | refine G.nil ?_ | (apply Gq.ex (hd := rfl); case h => (first | exact Ex.move rfl | exact Ex.nilCheck rfl | exact Ex.fieldB rfl | exact Ex.loadB rfl rfl | exact Ex.lss rfl rfl | exact Ex.gtr rfl rfl | exact Ex.geq rfl rfl | exact Ex.lenSl rfl | exact Ex.indexN rfl rfl (by first | omega | (simp; done) | (simp; omega)) | exact Ex.assign rfl | exact Ex.pickF rfl (by first | assumption | omega) rfl)) | refine Gq.g_ff rfl rfl (by first | assumption | omega) ?_ | refine Gq.nil ?_ | refine GC.seq ?_ | refine GC.region ?_ | refine GC.draw (by kernel_rfl) (by kernel_rfl) ?_ | refine GC.block ?_ | refine GC.skip ?_ | refine GE.then_normal ?_ | refine GC.cond_no rfl (by first | assumption | omega) ?_)
  by_cases h40 : (fs.getD i default).w.n = 40
  · have e40 : (ab (fs.getD i default)).w.length = 40 := by rw [← h40]; exact hn
    simp only [e40, if_true]
    repeat (first | refine GC.seq ?_ | refine GC.region ?_ | refine GC.cond_yes rfl (by first | assumption | omega) ?_)
    first | refine G.call (caps := []) (no_sp 9) rfl rfl rfl rfl (by repeat (first | exact Takes.nil | apply Takes.dup rfl | apply Takes.cons | exact Take1.here | apply Take1.there)) ?_ | refine G.callU (caps := []) (no_sp 9) rfl rfl rfl (by repeat (first | exact Takes.nil | apply Takes.dup rfl | apply Takes.cons | exact Take1.here | apply Take1.there)) ?_
    rintro v_ give_ ⟨rfl, rfl⟩ rs_ hrs_
    simp only [List.cons_append, List.nil_append] at hrs_
    subst hrs_
    repeat (first | refine G.storeBA rfl rfl rfl rfl rfl ?_ | refine G.nil ?_ | refine GC.ret ?_ | refine GE.then_normal ?_ | refine GE.then_ret ?_ | refine GE.block_ret ?_)
    refine GE.ret (by first | exact .inl rfl | exact .inr rfl) (by first | exact res0 Try.results44 | exact res1 Try.results44 rfl | exact res2 Try.results44 rfl rfl | exact resR1 Try.results44 (by first | exact RV.tmp rfl | exact RV.cell rfl rfl | exact RV.cell1 rfl) | exact resR2 Try.results44 (by first | exact RV.tmp rfl | exact RV.cell rfl rfl | exact RV.cell1 rfl) (by first | exact RV.tmp rfl | exact RV.cell rfl rfl | exact RV.cell1 rfl) | exact resR3 Try.results44 (by first | exact RV.tmp rfl | exact RV.cell rfl rfl | exact RV.cell1 rfl) (by first | exact RV.tmp rfl | exact RV.cell rfl rfl | exact RV.cell1 rfl) (by first | exact RV.tmp rfl | exact RV.cell rfl rfl | exact RV.cell1 rfl)) ⟨to_, tc, fs, T, rfl, hf, rfl, rfl, rfl⟩ (by repeat (first | exact Takes.nil | apply Takes.dup rfl | apply Takes.cons | exact Take1.here | apply Take1.there)) (by repeat (first | exact Subs.refl | refine Subs.skip ?_))
  · have e40 : ¬ (ab (fs.getD i default)).w.length = 40 := fun k => h40 (by rw [← hn]; exact k)
    simp only [e40, if_false]
    by_cases h0 : (fs.getD i default).w.n = 0
    · have e0 : (ab (fs.getD i default)).w = [] := List.eq_nil_of_length_eq_zero (by rw [show (ab (fs.getD i default)).w = (fs.getD i default).w.l from rfl]; omega)
      have e0' : (fs.getD i default).w.l = [] := e0
      simp only [e0, if_true]
      repeat (first | (apply G.ex (hd := rfl); case h => (first | exact Ex.eqI rfl rfl | exact Ex.assign rfl)) | refine G.nil ?_ | refine GC.seq ?_ | refine GC.region ?_ | refine GE.then_normal ?_ | refine GC.cond_yes rfl (by first | assumption | omega) ?_ | refine GC.cond_no rfl (by first | assumption | omega) ?_)
      have hcatT : flat eN T ++ flat eN [i] = flat eN (T ++ [i]) := (flat_append ..).symm
      refine GC.drawA [11] [.blk rb 105 [.slice fo fs.length fc, .slice to_ T.length tc], .blk b 57 [.int .i64 (i : Int), .int .i64 z]] (by repeat (first | exact Takes.nil | apply Takes.dup rfl | apply Takes.cons | exact Take1.here | apply Take1.there)) (by kernel_rfl) ?_
      first | (apply GA.take [] (hD := .inl rfl) (hsub := ⟨_, Takes.nil⟩) (i := 0) (hi := rfl) (hs := by kernel_rfl) (hfr := by kernel_rfl) (hr := by kernel_rfl) (hQ := (by repeat (first | exact NoPanic.fpost | apply NoPanic.then_ | apply NoPanic.block))) (hd := rfl); case hx => (first | exact Ex.move rfl))
      first | (apply GA.take [] (hD := .inl rfl) (hsub := ⟨_, Takes.nil⟩) (i := 1) (hi := rfl) (hs := by kernel_rfl) (hfr := by kernel_rfl) (hr := by kernel_rfl) (hQ := (by repeat (first | exact NoPanic.fpost | apply NoPanic.then_ | apply NoPanic.block))) (hd := rfl); case hx => (first | exact Ex.move rfl))
      first | (apply GA.take [] (hD := .inl rfl) (hsub := ⟨_, Takes.nil⟩) (i := 2) (hi := rfl) (hs := by kernel_rfl) (hfr := by kernel_rfl) (hr := by kernel_rfl) (hQ := (by repeat (first | exact NoPanic.fpost | apply NoPanic.then_ | apply NoPanic.block))) (hd := rfl); case hx => (first | exact Ex.nilCheck rfl))
      first | (apply GA.take [] (hD := .inl rfl) (hsub := ⟨_, Takes.nil⟩) (i := 3) (hi := rfl) (hs := by kernel_rfl) (hfr := by kernel_rfl) (hr := by kernel_rfl) (hQ := (by repeat (first | exact NoPanic.fpost | apply NoPanic.then_ | apply NoPanic.block))) (hd := rfl); case hx => (first | exact Ex.fieldB rfl))
      first | (apply GA.take _ (hD := .inr ⟨rfl, by kernel_rfl⟩) (hsub := ⟨_, (by repeat (first | exact Takes.nil | apply Takes.dup rfl | apply Takes.cons | exact Take1.here | apply Take1.there))⟩) (i := 4) (hi := rfl) (hs := by kernel_rfl) (hfr := by kernel_rfl) (hr := by kernel_rfl) (hQ := (by repeat (first | exact NoPanic.fpost | apply NoPanic.then_ | apply NoPanic.block))) (hd := rfl); case hx => (first | exact Ex.loadB rfl rfl))
      first | (apply GA.take [] (hD := .inl rfl) (hsub := ⟨_, Takes.nil⟩) (i := 5) (hi := rfl) (hs := by kernel_rfl) (hfr := by kernel_rfl) (hr := by kernel_rfl) (hQ := (by repeat (first | exact NoPanic.fpost | apply NoPanic.then_ | apply NoPanic.block))) (hd := rfl); case hx => (first | exact Ex.fieldB rfl))
      first | (apply GA.take _ (hD := .inr ⟨rfl, by kernel_rfl⟩) (hsub := ⟨_, (by repeat (first | exact Takes.nil | apply Takes.dup rfl | apply Takes.cons | exact Take1.here | apply Take1.there))⟩) (i := 6) (hi := rfl) (hs := by kernel_rfl) (hfr := by kernel_rfl) (hr := by kernel_rfl) (hQ := (by repeat (first | exact NoPanic.fpost | apply NoPanic.then_ | apply NoPanic.block))) (hd := rfl); case hx => (first | exact Ex.loadB rfl rfl))
      refine GA.one (i := 7) (by kernel_rfl) rfl ?_
      refine G.lit rfl (by rfl) (by rfl) (by rfl) (by rfl) (by rfl) (by rfl) rfl (fun yt => ?_)
      try refine G.nil ?_
      refine GA.back (by first | exact .inl (by decide) | exact .inr ⟨_, (by repeat (first | exact Takes.nil | apply Takes.dup rfl | apply Takes.cons | exact Take1.here | apply Take1.there))⟩) ?_
      refine GA.one (i := 8) (by kernel_rfl) rfl ?_
      refine G.app rfl rfl (by rfl) (by omega) rfl (hcatT) (fun ot ct rs_ hrs_ => ?_)
      try simp only at hrs_
      subst hrs_
      try refine G.nil ?_
      refine GA.back (by first | exact .inl (by decide) | exact .inr ⟨_, (by repeat (first | exact Takes.nil | apply Takes.dup rfl | apply Takes.cons | exact Take1.here | apply Take1.there))⟩) ?_
      first | (apply GA.take [] (hD := .inl rfl) (hsub := ⟨_, Takes.nil⟩) (i := 9) (hi := rfl) (hs := by kernel_rfl) (hfr := by kernel_rfl) (hr := by kernel_rfl) (hQ := (by repeat (first | exact NoPanic.fpost | apply NoPanic.then_ | apply NoPanic.block))) (hd := rfl); case hx => (first | exact Ex.nilCheck rfl))
      first | (apply GA.take [] (hD := .inl rfl) (hsub := ⟨_, Takes.nil⟩) (i := 10) (hi := rfl) (hs := by kernel_rfl) (hfr := by kernel_rfl) (hr := by kernel_rfl) (hQ := (by repeat (first | exact NoPanic.fpost | apply NoPanic.then_ | apply NoPanic.block))) (hd := rfl); case hx => (first | exact Ex.fieldB rfl))
      refine GA.one (i := 11) (by kernel_rfl) rfl ?_
      first | refine G.storeB rfl rfl rfl rfl rfl ?_
      try refine G.nil ?_
      refine GA.back (by first | exact .inl (by decide) | exact .inr ⟨_, (by repeat (first | exact Takes.nil | apply Takes.dup rfl | apply Takes.cons | exact Take1.here | apply Take1.there))⟩) ?_
      refine GA.done (by kernel_rfl) ?_
      rw [show T.length + 1 = (T ++ [i]).length by simp]
      repeat (first | refine GC.seq ?_ | refine GE.then_normal ?_ | refine GE.block_normal ?_)
      refine GC.conv (fun w_ H_ => Holds.starAt (i := i) (by simpa [wvs] using hi) (H_.take (need := [.own (Star (wvs fs))]) (by repeat (first | exact Takes.nil | apply Takes.dup rfl | apply Takes.cons | exact Take1.here | apply Take1.there)))) ?_
      try simp only [List.append_eq, List.nil_append, List.cons_append]
      rw [wvs_at fs i hi]
      unfold wv
      have hcat : flat (eI .i64) (fs.getD i default).w.l ++ flat (eI .i64) [z] = flat (eI .i64) ((fs.getD i default).w.l ++ [z]) := (flat_append ..).symm
      refine GC.drawA [11] [.vec 107 4 fo fs.length fc (flat eF fs), .blk b 57 [.int .i64 (i : Int), .int .i64 z]] (by repeat (first | exact Takes.nil | apply Takes.dup rfl | apply Takes.cons | exact Take1.here | apply Take1.there)) (by kernel_rfl) ?_
      first | (apply GA.take [] (hD := .inl rfl) (hsub := ⟨_, Takes.nil⟩) (i := 0) (hi := rfl) (hs := by kernel_rfl) (hfr := by kernel_rfl) (hr := by kernel_rfl) (hQ := (by repeat (first | exact NoPanic.fpost | apply NoPanic.then_ | apply NoPanic.block))) (hd := rfl); case hx => (first | exact Ex.move rfl))
      first | (apply GA.take [] (hD := .inl rfl) (hsub := ⟨_, Takes.nil⟩) (i := 1) (hi := rfl) (hs := by kernel_rfl) (hfr := by kernel_rfl) (hr := by kernel_rfl) (hQ := (by repeat (first | exact NoPanic.fpost | apply NoPanic.then_ | apply NoPanic.block))) (hd := rfl); case hx => (first | exact Ex.move rfl))
      first | (apply GA.take [] (hD := .inl rfl) (hsub := ⟨_, Takes.nil⟩) (i := 2) (hi := rfl) (hs := by kernel_rfl) (hfr := by kernel_rfl) (hr := by kernel_rfl) (hQ := (by repeat (first | exact NoPanic.fpost | apply NoPanic.then_ | apply NoPanic.block))) (hd := rfl); case hx => (first | exact Ex.nilCheck rfl))
      first | (apply GA.take [] (hD := .inl rfl) (hsub := ⟨_, Takes.nil⟩) (i := 3) (hi := rfl) (hs := by kernel_rfl) (hfr := by kernel_rfl) (hr := by kernel_rfl) (hQ := (by repeat (first | exact NoPanic.fpost | apply NoPanic.then_ | apply NoPanic.block))) (hd := rfl); case hx => (first | exact Ex.fieldE rfl))
      first | (apply GA.take _ (hD := .inr ⟨rfl, by kernel_rfl⟩) (hsub := ⟨_, (by repeat (first | exact Takes.nil | apply Takes.dup rfl | apply Takes.cons | exact Take1.here | apply Take1.there))⟩) (i := 4) (hi := rfl) (hs := by kernel_rfl) (hfr := by kernel_rfl) (hr := by kernel_rfl) (hQ := (by repeat (first | exact NoPanic.fpost | apply NoPanic.then_ | apply NoPanic.block))) (hd := rfl); case hx => (first | exact Ex.loadT rfl (by first | omega | (simp; done) | (simp; omega)) rfl))
      first | (apply GA.take [] (hD := .inl rfl) (hsub := ⟨_, Takes.nil⟩) (i := 5) (hi := rfl) (hs := by kernel_rfl) (hfr := by kernel_rfl) (hr := by kernel_rfl) (hQ := (by repeat (first | exact NoPanic.fpost | apply NoPanic.then_ | apply NoPanic.block))) (hd := rfl); case hx => (first | exact Ex.fieldB rfl))
      first | (apply GA.take _ (hD := .inr ⟨rfl, by kernel_rfl⟩) (hsub := ⟨_, (by repeat (first | exact Takes.nil | apply Takes.dup rfl | apply Takes.cons | exact Take1.here | apply Take1.there))⟩) (i := 6) (hi := rfl) (hs := by kernel_rfl) (hfr := by kernel_rfl) (hr := by kernel_rfl) (hQ := (by repeat (first | exact NoPanic.fpost | apply NoPanic.then_ | apply NoPanic.block))) (hd := rfl); case hx => (first | exact Ex.loadB rfl rfl))
      refine GA.one (i := 7) (by kernel_rfl) rfl ?_
      refine G.lit rfl (by rfl) (by rfl) (by rfl) (by rfl) (by rfl) (by rfl) rfl (fun y => ?_)
      try refine G.nil ?_
      refine GA.back (by first | exact .inl (by decide) | exact .inr ⟨_, (by repeat (first | exact Takes.nil | apply Takes.dup rfl | apply Takes.cons | exact Take1.here | apply Take1.there))⟩) ?_
      refine GA.one (i := 8) (by kernel_rfl) rfl ?_
      refine G.app rfl rfl (by rfl) (by omega) rfl (hcat) (fun o2 c2 rs_ hrs_ => ?_)
      try simp only at hrs_
      subst hrs_
      try refine G.nil ?_
      refine GA.back (by first | exact .inl (by decide) | exact .inr ⟨_, (by repeat (first | exact Takes.nil | apply Takes.dup rfl | apply Takes.cons | exact Take1.here | apply Take1.there))⟩) ?_
      first | (apply GA.take [] (hD := .inl rfl) (hsub := ⟨_, Takes.nil⟩) (i := 9) (hi := rfl) (hs := by kernel_rfl) (hfr := by kernel_rfl) (hr := by kernel_rfl) (hQ := (by repeat (first | exact NoPanic.fpost | apply NoPanic.then_ | apply NoPanic.block))) (hd := rfl); case hx => (first | exact Ex.nilCheck rfl))
      first | (apply GA.take [] (hD := .inl rfl) (hsub := ⟨_, Takes.nil⟩) (i := 10) (hi := rfl) (hs := by kernel_rfl) (hfr := by kernel_rfl) (hr := by kernel_rfl) (hQ := (by repeat (first | exact NoPanic.fpost | apply NoPanic.then_ | apply NoPanic.block))) (hd := rfl); case hx => (first | exact Ex.fieldE rfl))
      refine GA.one (i := 11) (by kernel_rfl) rfl ?_
      first | refine G.storeT0 rfl rfl rfl rfl (by first | omega | (simp; omega)) rfl ((⟨(fs.getD i default).q, ⟨o2, (fs.getD i default).w.n + 1, c2, (fs.getD i default).w.l ++ [z]⟩, (fs.getD i default).d, (fs.getD i default).fed⟩ : Fl)) (rfl) (fun rs_ hrs_ => ?_) | refine G.storeT rfl rfl rfl rfl (by first | omega | (simp; omega)) rfl ((⟨(fs.getD i default).q, ⟨o2, (fs.getD i default).w.n + 1, c2, (fs.getD i default).w.l ++ [z]⟩, (fs.getD i default).d, (fs.getD i default).fed⟩ : Fl)) (rfl) (fun rs_ hrs_ => ?_) | refine G.storeTA rfl rfl (by first | omega | (simp; omega)) rfl ((⟨(fs.getD i default).q, ⟨o2, (fs.getD i default).w.n + 1, c2, (fs.getD i default).w.l ++ [z]⟩, (fs.getD i default).d, (fs.getD i default).fed⟩ : Fl)) (rfl) (fun rs_ hrs_ => ?_)
      try simp only at hrs_
      subst hrs_
      refine G.conv (fun w_ H_ => Holds.starBack (by simpa [wvs] using hi) (H_.take (need := [.vec 3 1 o2 ((fs.getD i default).w.n + 1) c2 (flat (eI .i64) ((fs.getD i default).w.l ++ [z])), .own (Star ((wvs fs).eraseIdx i))]) (by repeat (first | exact Takes.nil | apply Takes.dup rfl | apply Takes.cons | exact Take1.here | apply Take1.there)))) ?_
      try simp only [List.append_eq, List.nil_append, List.cons_append]
      rw [show (wvs fs).set i (.vec 3 1 o2 ((fs.getD i default).w.n + 1) c2 (flat (eI .i64) ((fs.getD i default).w.l ++ [z]))) = wvs (fs.set i (⟨(fs.getD i default).q, ⟨o2, (fs.getD i default).w.n + 1, c2, (fs.getD i default).w.l ++ [z]⟩, (fs.getD i default).d, (fs.getD i default).fed⟩ : Fl)) from wvs_set fs i ⟨(fs.getD i default).q, ⟨o2, (fs.getD i default).w.n + 1, c2, (fs.getD i default).w.l ++ [z]⟩, (fs.getD i default).d, (fs.getD i default).fed⟩]
      rw [show fs.length = (fs.set i (⟨(fs.getD i default).q, ⟨o2, (fs.getD i default).w.n + 1, c2, (fs.getD i default).w.l ++ [z]⟩, (fs.getD i default).d, (fs.getD i default).fed⟩ : Fl)).length by simp]
      try refine G.nil ?_
      refine GA.back (by first | exact .inl (by decide) | exact .inr ⟨_, (by repeat (first | exact Takes.nil | apply Takes.dup rfl | apply Takes.cons | exact Take1.here | apply Take1.there))⟩) ?_
      refine GA.done (by kernel_rfl) ?_
      repeat (first | refine G.storeBA rfl rfl rfl rfl rfl ?_ | (apply G.ex (hd := rfl); case h => (first | exact Ex.build rfl rfl)) | refine G.nil ?_ | refine GC.seq ?_ | refine GC.region ?_ | refine GC.ret ?_ | refine GE.then_normal ?_)
      refine GE.ret (by first | exact .inl rfl | exact .inr rfl) (by first | exact res0 Try.results44 | exact res1 Try.results44 rfl | exact res2 Try.results44 rfl rfl | exact resR1 Try.results44 (by first | exact RV.tmp rfl | exact RV.cell rfl rfl | exact RV.cell1 rfl) | exact resR2 Try.results44 (by first | exact RV.tmp rfl | exact RV.cell rfl rfl | exact RV.cell1 rfl) (by first | exact RV.tmp rfl | exact RV.cell rfl rfl | exact RV.cell1 rfl) | exact resR3 Try.results44 (by first | exact RV.tmp rfl | exact RV.cell rfl rfl | exact RV.cell1 rfl) (by first | exact RV.tmp rfl | exact RV.cell rfl rfl | exact RV.cell1 rfl) (by first | exact RV.tmp rfl | exact RV.cell rfl rfl | exact RV.cell1 rfl)) ⟨ot, ct, fs.set i (⟨(fs.getD i default).q, ⟨o2, (fs.getD i default).w.n + 1, c2, (fs.getD i default).w.l ++ [z]⟩, (fs.getD i default).d, (fs.getD i default).fed⟩ : Fl), T ++ [i], rfl, hf.set (by simp only [List.length_append, List.length_cons, List.length_nil]; omega), by rw [List.map_set]; first | rfl | (simp only [e0', List.nil_append]; rfl), by simp, rfl⟩ (by repeat (first | exact Takes.nil | apply Takes.dup rfl | apply Takes.cons | exact Take1.here | apply Take1.there)) (by repeat (first | exact Subs.refl | refine Subs.skip ?_))
    · have e0 : ¬ (ab (fs.getD i default)).w = [] := fun k => h0 (by rw [← hn, show (fs.getD i default).w.l = [] from k]; rfl)
      have e0' : (fs.getD i default).w.l = (fs.getD i default).w.l := rfl
      simp only [e0, if_false]
      repeat (first | (apply G.ex (hd := rfl); case h => (first | exact Ex.eqI rfl rfl | exact Ex.assign rfl)) | refine G.nil ?_ | refine GC.seq ?_ | refine GC.region ?_ | refine GC.skip ?_ | refine GE.then_normal ?_ | refine GE.block_normal ?_ | refine GC.cond_no rfl (by first | assumption | omega) ?_)
      refine GC.conv (fun w_ H_ => Holds.starAt (i := i) (by simpa [wvs] using hi) (H_.take (need := [.own (Star (wvs fs))]) (by repeat (first | exact Takes.nil | apply Takes.dup rfl | apply Takes.cons | exact Take1.here | apply Take1.there)))) ?_
      try simp only [List.append_eq, List.nil_append, List.cons_append]
      rw [wvs_at fs i hi]
      unfold wv
      have hcat : flat (eI .i64) (fs.getD i default).w.l ++ flat (eI .i64) [z] = flat (eI .i64) ((fs.getD i default).w.l ++ [z]) := (flat_append ..).symm
      refine GC.drawA [11] [.vec 107 4 fo fs.length fc (flat eF fs), .blk b 57 [.int .i64 (i : Int), .int .i64 z]] (by repeat (first | exact Takes.nil | apply Takes.dup rfl | apply Takes.cons | exact Take1.here | apply Take1.there)) (by kernel_rfl) ?_
      first | (apply GA.take [] (hD := .inl rfl) (hsub := ⟨_, Takes.nil⟩) (i := 0) (hi := rfl) (hs := by kernel_rfl) (hfr := by kernel_rfl) (hr := by kernel_rfl) (hQ := (by repeat (first | exact NoPanic.fpost | apply NoPanic.then_ | apply NoPanic.block))) (hd := rfl); case hx => (first | exact Ex.move rfl))
      first | (apply GA.take [] (hD := .inl rfl) (hsub := ⟨_, Takes.nil⟩) (i := 1) (hi := rfl) (hs := by kernel_rfl) (hfr := by kernel_rfl) (hr := by kernel_rfl) (hQ := (by repeat (first | exact NoPanic.fpost | apply NoPanic.then_ | apply NoPanic.block))) (hd := rfl); case hx => (first | exact Ex.move rfl))
      first | (apply GA.take [] (hD := .inl rfl) (hsub := ⟨_, Takes.nil⟩) (i := 2) (hi := rfl) (hs := by kernel_rfl) (hfr := by kernel_rfl) (hr := by kernel_rfl) (hQ := (by repeat (first | exact NoPanic.fpost | apply NoPanic.then_ | apply NoPanic.block))) (hd := rfl); case hx => (first | exact Ex.nilCheck rfl))
      first | (apply GA.take [] (hD := .inl rfl) (hsub := ⟨_, Takes.nil⟩) (i := 3) (hi := rfl) (hs := by kernel_rfl) (hfr := by kernel_rfl) (hr := by kernel_rfl) (hQ := (by repeat (first | exact NoPanic.fpost | apply NoPanic.then_ | apply NoPanic.block))) (hd := rfl); case hx => (first | exact Ex.fieldE rfl))
      first | (apply GA.take _ (hD := .inr ⟨rfl, by kernel_rfl⟩) (hsub := ⟨_, (by repeat (first | exact Takes.nil | apply Takes.dup rfl | apply Takes.cons | exact Take1.here | apply Take1.there))⟩) (i := 4) (hi := rfl) (hs := by kernel_rfl) (hfr := by kernel_rfl) (hr := by kernel_rfl) (hQ := (by repeat (first | exact NoPanic.fpost | apply NoPanic.then_ | apply NoPanic.block))) (hd := rfl); case hx => (first | exact Ex.loadT rfl (by first | omega | (simp; done) | (simp; omega)) rfl))
      first | (apply GA.take [] (hD := .inl rfl) (hsub := ⟨_, Takes.nil⟩) (i := 5) (hi := rfl) (hs := by kernel_rfl) (hfr := by kernel_rfl) (hr := by kernel_rfl) (hQ := (by repeat (first | exact NoPanic.fpost | apply NoPanic.then_ | apply NoPanic.block))) (hd := rfl); case hx => (first | exact Ex.fieldB rfl))
      first | (apply GA.take _ (hD := .inr ⟨rfl, by kernel_rfl⟩) (hsub := ⟨_, (by repeat (first | exact Takes.nil | apply Takes.dup rfl | apply Takes.cons | exact Take1.here | apply Take1.there))⟩) (i := 6) (hi := rfl) (hs := by kernel_rfl) (hfr := by kernel_rfl) (hr := by kernel_rfl) (hQ := (by repeat (first | exact NoPanic.fpost | apply NoPanic.then_ | apply NoPanic.block))) (hd := rfl); case hx => (first | exact Ex.loadB rfl rfl))
      refine GA.one (i := 7) (by kernel_rfl) rfl ?_
      refine G.lit rfl (by rfl) (by rfl) (by rfl) (by rfl) (by rfl) (by rfl) rfl (fun y => ?_)
      try refine G.nil ?_
      refine GA.back (by first | exact .inl (by decide) | exact .inr ⟨_, (by repeat (first | exact Takes.nil | apply Takes.dup rfl | apply Takes.cons | exact Take1.here | apply Take1.there))⟩) ?_
      refine GA.one (i := 8) (by kernel_rfl) rfl ?_
      refine G.app rfl rfl (by rfl) (by omega) rfl (hcat) (fun o2 c2 rs_ hrs_ => ?_)
      try simp only at hrs_
      subst hrs_
      try refine G.nil ?_
      refine GA.back (by first | exact .inl (by decide) | exact .inr ⟨_, (by repeat (first | exact Takes.nil | apply Takes.dup rfl | apply Takes.cons | exact Take1.here | apply Take1.there))⟩) ?_
      first | (apply GA.take [] (hD := .inl rfl) (hsub := ⟨_, Takes.nil⟩) (i := 9) (hi := rfl) (hs := by kernel_rfl) (hfr := by kernel_rfl) (hr := by kernel_rfl) (hQ := (by repeat (first | exact NoPanic.fpost | apply NoPanic.then_ | apply NoPanic.block))) (hd := rfl); case hx => (first | exact Ex.nilCheck rfl))
      first | (apply GA.take [] (hD := .inl rfl) (hsub := ⟨_, Takes.nil⟩) (i := 10) (hi := rfl) (hs := by kernel_rfl) (hfr := by kernel_rfl) (hr := by kernel_rfl) (hQ := (by repeat (first | exact NoPanic.fpost | apply NoPanic.then_ | apply NoPanic.block))) (hd := rfl); case hx => (first | exact Ex.fieldE rfl))
      refine GA.one (i := 11) (by kernel_rfl) rfl ?_
      first | refine G.storeT0 rfl rfl rfl rfl (by first | omega | (simp; omega)) rfl ((⟨(fs.getD i default).q, ⟨o2, (fs.getD i default).w.n + 1, c2, (fs.getD i default).w.l ++ [z]⟩, (fs.getD i default).d, (fs.getD i default).fed⟩ : Fl)) (rfl) (fun rs_ hrs_ => ?_) | refine G.storeT rfl rfl rfl rfl (by first | omega | (simp; omega)) rfl ((⟨(fs.getD i default).q, ⟨o2, (fs.getD i default).w.n + 1, c2, (fs.getD i default).w.l ++ [z]⟩, (fs.getD i default).d, (fs.getD i default).fed⟩ : Fl)) (rfl) (fun rs_ hrs_ => ?_) | refine G.storeTA rfl rfl (by first | omega | (simp; omega)) rfl ((⟨(fs.getD i default).q, ⟨o2, (fs.getD i default).w.n + 1, c2, (fs.getD i default).w.l ++ [z]⟩, (fs.getD i default).d, (fs.getD i default).fed⟩ : Fl)) (rfl) (fun rs_ hrs_ => ?_)
      try simp only at hrs_
      subst hrs_
      refine G.conv (fun w_ H_ => Holds.starBack (by simpa [wvs] using hi) (H_.take (need := [.vec 3 1 o2 ((fs.getD i default).w.n + 1) c2 (flat (eI .i64) ((fs.getD i default).w.l ++ [z])), .own (Star ((wvs fs).eraseIdx i))]) (by repeat (first | exact Takes.nil | apply Takes.dup rfl | apply Takes.cons | exact Take1.here | apply Take1.there)))) ?_
      try simp only [List.append_eq, List.nil_append, List.cons_append]
      rw [show (wvs fs).set i (.vec 3 1 o2 ((fs.getD i default).w.n + 1) c2 (flat (eI .i64) ((fs.getD i default).w.l ++ [z]))) = wvs (fs.set i (⟨(fs.getD i default).q, ⟨o2, (fs.getD i default).w.n + 1, c2, (fs.getD i default).w.l ++ [z]⟩, (fs.getD i default).d, (fs.getD i default).fed⟩ : Fl)) from wvs_set fs i ⟨(fs.getD i default).q, ⟨o2, (fs.getD i default).w.n + 1, c2, (fs.getD i default).w.l ++ [z]⟩, (fs.getD i default).d, (fs.getD i default).fed⟩]
      rw [show fs.length = (fs.set i (⟨(fs.getD i default).q, ⟨o2, (fs.getD i default).w.n + 1, c2, (fs.getD i default).w.l ++ [z]⟩, (fs.getD i default).d, (fs.getD i default).fed⟩ : Fl)).length by simp]
      try refine G.nil ?_
      refine GA.back (by first | exact .inl (by decide) | exact .inr ⟨_, (by repeat (first | exact Takes.nil | apply Takes.dup rfl | apply Takes.cons | exact Take1.here | apply Take1.there))⟩) ?_
      refine GA.done (by kernel_rfl) ?_
      repeat (first | refine G.storeBA rfl rfl rfl rfl rfl ?_ | (apply G.ex (hd := rfl); case h => (first | exact Ex.build rfl rfl)) | refine G.nil ?_ | refine GC.seq ?_ | refine GC.region ?_ | refine GC.ret ?_ | refine GE.then_normal ?_)
      refine GE.ret (by first | exact .inl rfl | exact .inr rfl) (by first | exact res0 Try.results44 | exact res1 Try.results44 rfl | exact res2 Try.results44 rfl rfl | exact resR1 Try.results44 (by first | exact RV.tmp rfl | exact RV.cell rfl rfl | exact RV.cell1 rfl) | exact resR2 Try.results44 (by first | exact RV.tmp rfl | exact RV.cell rfl rfl | exact RV.cell1 rfl) (by first | exact RV.tmp rfl | exact RV.cell rfl rfl | exact RV.cell1 rfl) | exact resR3 Try.results44 (by first | exact RV.tmp rfl | exact RV.cell rfl rfl | exact RV.cell1 rfl) (by first | exact RV.tmp rfl | exact RV.cell rfl rfl | exact RV.cell1 rfl) (by first | exact RV.tmp rfl | exact RV.cell rfl rfl | exact RV.cell1 rfl)) ⟨to_, tc, fs.set i (⟨(fs.getD i default).q, ⟨o2, (fs.getD i default).w.n + 1, c2, (fs.getD i default).w.l ++ [z]⟩, (fs.getD i default).d, (fs.getD i default).fed⟩ : Fl), T, rfl, hf.set (by simp only [List.length_append, List.length_cons, List.length_nil]; omega), by rw [List.map_set]; first | rfl | (simp only [e0', List.nil_append]; rfl), by simp, rfl⟩ (by repeat (first | exact Takes.nil | apply Takes.dup rfl | apply Takes.cons | exact Take1.here | apply Take1.there)) (by repeat (first | exact Subs.refl | refine Subs.skip ?_))
end fair
end Go.Proofs.Ytcabcpealkbekaa
