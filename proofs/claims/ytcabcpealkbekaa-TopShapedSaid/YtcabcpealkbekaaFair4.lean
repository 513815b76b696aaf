/-
  CONTRACT of (*fair.ring).sends, by the kit.
-/
import Derived.Test.YtcabcpealkbekaaFair3
namespace Go.Proofs.Ytcabcpealkbekaa
open Go.RowKit
attribute [local irreducible] Ex G GC GE Gq FPost LPost
set_option linter.unusedVariables false
set_option linter.unusedSimpArgs false

namespace fair
def fdF (x : Fl) : Fl := ⟨x.q, x.w, (fed (ab x)).d, true⟩
def ltF (x : Fl) : Fl := ⟨x.q, x.w, (fed (ab x)).d, false⟩
theorem ab_fdF (x : Fl) : ab (fdF x) = fed (ab x) := by
  unfold fed
  by_cases h : (ab x).fed = true
  · rw [if_pos h]
    show (⟨x.q, x.w.l, (fed (ab x)).d, true⟩ : AF) = ⟨x.q, x.w.l, x.d, x.fed⟩
    rw [show (fed (ab x)).d = x.d by unfold fed; rw [if_pos h]; rfl, show x.fed = true from h]
  · rw [if_neg h]
    show (⟨x.q, x.w.l, (fed (ab x)).d, true⟩ : AF) = ⟨x.q, x.w.l, x.d + x.q, true⟩
    rw [show (fed (ab x)).d = x.d + x.q by unfold fed; rw [if_neg h]; rfl]
theorem fed_fed (x : AF) : fed (fed x) = fed x := by
  have : (fed x).fed = true := by unfold fed; split <;> simp_all
  generalize fed x = y at *
  unfold fed
  rw [if_pos this]
theorem fed_wq (x : AF) : (fed x).w = x.w ∧ (fed x).q = x.q := by unfold fed; split <;> exact ⟨rfl, rfl⟩
theorem less_fed (x : AF) : less (fed x) = less x := by
  unfold less; rw [fed_fed, (fed_wq x).1, (fed_wq x).2]
def mf (x : Fl) : Nat := 2 * (1501 - x.d).toNat + (if x.fed then 1 else 0)
def mu (fs : List Fl) : Nat := (fs.map mf).sum
theorem sum_set : ∀ (l : List Nat) (i x : Nat), i < l.length → (l.set i x).sum + l.getD i 0 = l.sum + x
  | [], i, x, h => by simp at h
  | a :: l, 0, x, h => by simp; omega
  | a :: l, i + 1, x, h => by
    have := sum_set l i x (by simpa using h)
    simp only [List.set_cons_succ, List.sum_cons, List.getD_cons_succ]; omega
theorem mu_set (fs : List Fl) (i : Nat) (x : Fl) (h : i < fs.length) (hx : mf x < mf (fs.getD i default)) : mu (fs.set i x) < mu fs := by
  unfold mu
  have h1 := sum_set (fs.map mf) i (mf x) (by simpa using h)
  rw [show (fs.map mf).getD i 0 = mf (fs.getD i default) by rw [List.getD_eq_getElem?_getD, List.getD_eq_getElem?_getD, List.getElem?_map, List.getElem?_eq_getElem h]; rfl] at h1
  rw [List.map_set]; omega
theorem mf_lt {x : Fl} (h : FlOk (ab x)) (hr : ¬ Ready (ab x)) : mf (ltF x) < mf x := by
  have hh := head_le h
  have hq : 1 ≤ x.q := h.q.1
  unfold Ready at hr
  unfold mf ltF
  by_cases hf : x.fed = true
  · have e : (fed (ab x)).d = x.d := by unfold fed; rw [if_pos (show (ab x).fed = true from hf)]; rfl
    simp only [e, hf, if_true]; simp
  · have e : (fed (ab x)).d = x.d + x.q := by unfold fed; rw [if_neg (show ¬ (ab x).fed = true from hf)]; rfl
    rw [e] at hr ⊢
    simp only [hf]
    simp; omega
theorem wvs_same (fs : List Fl) (i : Nat) (x : Fl) (h : i < fs.length) (hx : x.w = (fs.getD i default).w) : wvs (fs.set i x) = wvs fs := by
  have := wvs_set fs i x
  rw [← this, hx, ← wvs_at fs i h]
  exact List.set_getElem_self _
set_option maxHeartbeats 4000000 in
theorem sends_sp (rb : Nat) (fo : Option Addr) (fc : Nat) (to_ : Option Addr) (tc : Nat) (fs0 : List Fl) (i0 : Nat) (T0 : List Nat) (N : Nat) (hN : fs0.length = N) (hf0 : Fits fs0) (hw0 : Wf (fs0.map ab, i0 :: T0)) :
    Spec Try.prog 46 [.pointer (some (badr rb 0))] [.blk rb 105 [.slice fo N fc, .slice to_ (T0.length + 1) tc], .vec 107 4 fo N fc (flat eF fs0), .vec 3 1 to_ (T0.length + 1) tc (flat eN (i0 :: T0)), .own (Star (wvs fs0))]
      fun v give => ∃ to2 tc2 fs2 T2 o, Sends (fs0.map ab, i0 :: T0) (fs2.map ab, T2) o ∧ v = .agg (eV 0 (o.1 : Int) o.2).toArray ∧ Fits fs2 ∧ fs2.length = N ∧
        give = [.blk rb 105 [.slice fo N fc, .slice to2 T2.length tc2], .vec 107 4 fo N fc (flat eF fs2), .vec 3 1 to2 T2.length tc2 (flat eN T2), .own (Star (wvs fs2))] := by
  have h6 : N ≤ 6 := by have := hw0.len; simp at this; omega
  refine Spec.intro Try.func46 rfl Try.ntmps46 rfl fun w0 rest rs_ hrs_ => ?_
  simp only [List.cons_append, List.nil_append] at hrs_
  subst hrs_
  repeat (first | refine GC.seq ?_ | refine GC.region ?_)
  refine G.alloc rfl (fun r => ?_)
  repeat (first | (apply G.ex (hd := rfl); case h => (first | exact Ex.move rfl | exact Ex.nilCheck rfl | exact Ex.fieldB rfl | exact Ex.loadB rfl rfl | exact Ex.eqI rfl rfl | exact Ex.lenSl rfl)) | refine G.nil ?_ | refine GC.seq ?_ | refine GC.region ?_ | refine GC.block ?_ | refine GC.skip ?_ | refine GE.then_normal ?_ | refine GC.cond_no rfl (by first | assumption | omega) ?_)
  refine GC.loop (ι := Nat × List Nat × List Fl × Option Addr × Nat) (fun x => x.2.2.1.length = N ∧ Fits x.2.2.1 ∧ Wf (x.2.2.1.map ab, x.1 :: x.2.1) ∧ ∀ s o, Sends (x.2.2.1.map ab, x.1 :: x.2.1) s o → Sends (fs0.map ab, i0 :: T0) s o) (fun x => mu x.2.2.1) (fun x => [(0, .pointer (some (badr rb 0))), (2, .pointer (some (badr r 0)))]) (fun x => [.blk r 59 [.int .i64 0, .int .i64 0, .int .i64 0], .blk rb 105 [.slice fo N fc, .slice x.2.2.2.1 (x.2.1.length + 1) x.2.2.2.2], .vec 107 4 fo N fc (flat eF x.2.2.1), .vec 3 1 x.2.2.2.1 (x.2.1.length + 1) x.2.2.2.2 (flat eN (x.1 :: x.2.1)), .own (Star (wvs x.2.2.1))]) (i0, T0, fs0, to_, tc) ⟨hN, hf0, hw0, fun s o h => h⟩ (by simp only [fits]; repeat (first | exact trivial | refine And.intro rfl ?_)) (by repeat (first | exact Takes.nil | apply Takes.dup rfl | apply Takes.cons | exact Take1.here | apply Take1.there)) ?_
  rintro ⟨i, T, fs, to_, tc⟩ ⟨hl_, hf_, hw_, hS_⟩ fr_ rs_ hfr_ hrs_
  simp only [List.cons_append, List.nil_append] at hfr_ hrs_
  subst hfr_ hrs_
  obtain ⟨hl, hf, hw, hS⟩ : fs.length = N ∧ Fits fs ∧ Wf (fs.map ab, i :: T) ∧ ∀ s o, Sends (fs.map ab, i :: T) s o → Sends (fs0.map ab, i0 :: T0) s o := ⟨hl_, hf_, hw_, hS_⟩
  clear hl_ hf_ hw_ hS_
  have hi : i < fs.length := by have := ((hw.act i).1 (by simp)).1; simpa using this
  have hT6 : T.length + 1 ≤ 6 := by have := turn_len hw; simpa using this
  have hne : (fs.getD i default).w.l ≠ [] := by
    have := ((hw.act i).1 (by simp)).2
    rw [show ((fs.map ab).getD i default) = ab (fs.getD i default) from map_ab_at fs i hi] at this
    exact this
  have hok : FlOk (ab (fs.getD i default)) := hw.fl _ (List.mem_map.2 ⟨_, fl_mem fs i hi, rfl⟩)
  have hd : 0 ≤ (fs.getD i default).d ∧ (fs.getD i default).d ≤ 3000 := hok.d
  have hq : 1 ≤ (fs.getD i default).q ∧ (fs.getD i default).q ≤ 1500 := hok.q
  have hn := hf.n _ (fl_mem fs i hi)
  have hl0 : 0 < (fs.getD i default).w.l.length := List.length_pos_iff.2 hne
  have hn0 : 0 < (fs.getD i default).w.n := by omega
  have gs : ∀ Z : Fl, (fs.set i Z).getD i default = Z := fun Z => set_at fs i Z hi
  have ss : ∀ Y Z : Fl, (fs.set i Y).set i Z = fs.set i Z := fun Y Z => List.set_set ..
  have hiN : i < N := by omega
  repeat (first | (apply G.ex (hd := rfl); case h => (first | exact Ex.move rfl | exact Ex.nilCheck rfl | exact Ex.fieldE rfl | exact Ex.fieldB rfl | exact Ex.loadB rfl rfl | exact Ex.indexN rfl rfl (by first | omega | (simp; done) | (simp; omega)) | exact Ex.loadT0 rfl (by first | omega | (simp; done) | (simp; omega)) rfl | exact Ex.loadT rfl (by first | omega | (simp; done) | (simp; omega)) rfl | exact Ex.assign rfl | exact Ex.notB rfl)) | refine G.nil ?_ | refine GC.seq ?_ | refine GC.region ?_ | refine GC.block ?_ | refine GE.then_normal ?_)
  rw [show ((i :: T).getD 0 default : Nat) = i from rfl]
  repeat (first | fail)
  refine GC.meet (ι := Unit) (fun _ => True) (fun _ => [(0, .pointer (some (badr rb 0))), (2, .pointer (some (badr r 0))), (3, .int .i64 (i : Int)), (4, .pointer (some (eadr fo (i * 4))))]) (fun _ => [.blk r 59 [.int .i64 0, .int .i64 0, .int .i64 0], .blk rb 105 [.slice fo N fc, .slice to_ (T.length + 1) tc], .vec 107 4 fo N fc (flat eF (fs.set i (fdF (fs.getD i default)))), .vec 3 1 to_ (T.length + 1) tc (flat eN (i :: T)), .own (Star (wvs fs))]) rest ?_ ?_
  · by_cases hfd : (fs.getD i default).fed = true
    · have hfd2 : ¬ ¬ (fs.getD i default).fed = true := fun k => k hfd
      repeat (first | refine GC.skip ?_ | refine GC.cond_no rfl (by first | assumption | omega) ?_)
      rw [show flat eF fs = flat eF (fs.set i (fdF (fs.getD i default))) by
        have e : fdF (fs.getD i default) = fs.getD i default := by
          unfold fdF fed
          rw [if_pos (show (ab (fs.getD i default)).fed = true from hfd)]
          rw [show (true : Bool) = (fs.getD i default).fed from hfd.symm]; rfl
        rw [e, List.getD_eq_getElem?_getD, List.getElem?_eq_getElem hi, Option.getD_some, List.set_getElem_self]]
      refine GE.meet () trivial (by simp only [fits]; repeat (first | exact trivial | refine And.intro rfl ?_)) (by repeat (first | exact Takes.nil | apply Takes.dup rfl | apply Takes.cons | exact Take1.here | apply Take1.there)) (by repeat (first | exact Subs.refl | refine Subs.skip ?_))
    · repeat (first | (apply G.ex (hd := rfl); case h => (first | exact Ex.move rfl | exact Ex.nilCheck rfl | exact Ex.fieldE rfl)) | refine GC.seq ?_ | refine GC.region ?_ | refine GC.cond_yes rfl (by first | assumption | omega) ?_)
      first | refine G.storeT0 rfl rfl rfl rfl (by first | omega | (simp; omega)) rfl ((⟨(fs.getD i default).q, (fs.getD i default).w, (fs.getD i default).d, true⟩ : Fl)) (rfl) (fun rs_ hrs_ => ?_) | refine G.storeT rfl rfl rfl rfl (by first | omega | (simp; omega)) rfl ((⟨(fs.getD i default).q, (fs.getD i default).w, (fs.getD i default).d, true⟩ : Fl)) (rfl) (fun rs_ hrs_ => ?_) | refine G.storeTA rfl rfl (by first | omega | (simp; omega)) rfl ((⟨(fs.getD i default).q, (fs.getD i default).w, (fs.getD i default).d, true⟩ : Fl)) (rfl) (fun rs_ hrs_ => ?_)
      try simp only at hrs_
      subst hrs_
      repeat (first | refine G.nil ?_ | refine GE.then_normal ?_)
      refine GC.drawA [11] [.vec 107 4 fo N fc (flat eF (fs.set i (⟨(fs.getD i default).q, (fs.getD i default).w, (fs.getD i default).d, true⟩ : Fl)))] (by repeat (first | exact Takes.nil | apply Takes.dup rfl | apply Takes.cons | exact Take1.here | apply Take1.there)) (by kernel_rfl) ?_
      first | (apply GA.take [] (hD := .inl rfl) (hsub := ⟨_, Takes.nil⟩) (i := 0) (hi := rfl) (hs := by kernel_rfl) (hfr := by kernel_rfl) (hr := by kernel_rfl) (hQ := (by repeat (first | exact NoPanic.fpost | apply NoPanic.then_ | apply NoPanic.block))) (hd := rfl); case hx => (first | exact Ex.move rfl))
      first | (apply GA.take [] (hD := .inl rfl) (hsub := ⟨_, Takes.nil⟩) (i := 1) (hi := rfl) (hs := by kernel_rfl) (hfr := by kernel_rfl) (hr := by kernel_rfl) (hQ := (by repeat (first | exact NoPanic.fpost | apply NoPanic.then_ | apply NoPanic.block))) (hd := rfl); case hx => (first | exact Ex.nilCheck rfl))
      first | (apply GA.take [] (hD := .inl rfl) (hsub := ⟨_, Takes.nil⟩) (i := 2) (hi := rfl) (hs := by kernel_rfl) (hfr := by kernel_rfl) (hr := by kernel_rfl) (hQ := (by repeat (first | exact NoPanic.fpost | apply NoPanic.then_ | apply NoPanic.block))) (hd := rfl); case hx => (first | exact Ex.fieldE rfl))
      first | (apply GA.take _ (hD := .inr ⟨rfl, by kernel_rfl⟩) (hsub := ⟨_, (by repeat (first | exact Takes.nil | apply Takes.dup rfl | apply Takes.cons | exact Take1.here | apply Take1.there))⟩) (i := 3) (hi := rfl) (hs := by kernel_rfl) (hfr := by kernel_rfl) (hr := by kernel_rfl) (hQ := (by repeat (first | exact NoPanic.fpost | apply NoPanic.then_ | apply NoPanic.block))) (hd := rfl); case hx => (first | exact Ex.loadT rfl (by first | omega | (simp; done) | (simp; omega)) rfl))
      first | (apply GA.take [] (hD := .inl rfl) (hsub := ⟨_, Takes.nil⟩) (i := 4) (hi := rfl) (hs := by kernel_rfl) (hfr := by kernel_rfl) (hr := by kernel_rfl) (hQ := (by repeat (first | exact NoPanic.fpost | apply NoPanic.then_ | apply NoPanic.block))) (hd := rfl); case hx => (first | exact Ex.move rfl))
      first | (apply GA.take [] (hD := .inl rfl) (hsub := ⟨_, Takes.nil⟩) (i := 5) (hi := rfl) (hs := by kernel_rfl) (hfr := by kernel_rfl) (hr := by kernel_rfl) (hQ := (by repeat (first | exact NoPanic.fpost | apply NoPanic.then_ | apply NoPanic.block))) (hd := rfl); case hx => (first | exact Ex.nilCheck rfl))
      first | (apply GA.take [] (hD := .inl rfl) (hsub := ⟨_, Takes.nil⟩) (i := 6) (hi := rfl) (hs := by kernel_rfl) (hfr := by kernel_rfl) (hr := by kernel_rfl) (hQ := (by repeat (first | exact NoPanic.fpost | apply NoPanic.then_ | apply NoPanic.block))) (hd := rfl); case hx => (first | exact Ex.fieldE rfl))
      first | (apply GA.take _ (hD := .inr ⟨rfl, by kernel_rfl⟩) (hsub := ⟨_, (by repeat (first | exact Takes.nil | apply Takes.dup rfl | apply Takes.cons | exact Take1.here | apply Take1.there))⟩) (i := 7) (hi := rfl) (hs := by kernel_rfl) (hfr := by kernel_rfl) (hr := by kernel_rfl) (hQ := (by repeat (first | exact NoPanic.fpost | apply NoPanic.then_ | apply NoPanic.block))) (hd := rfl); case hx => (first | exact Ex.loadT0 rfl (by first | omega | (simp; done) | (simp; omega)) rfl))
      simp only [gs]
      first | (apply GA.take [] (hD := .inl rfl) (hsub := ⟨_, Takes.nil⟩) (i := 8) (hi := rfl) (hs := by kernel_rfl) (hfr := by kernel_rfl) (hr := by kernel_rfl) (hQ := (by repeat (first | exact NoPanic.fpost | apply NoPanic.then_ | apply NoPanic.block))) (hd := rfl); case hx => (first | exact Ex.add rfl rfl (by omega)))
      first | (apply GA.take [] (hD := .inl rfl) (hsub := ⟨_, Takes.nil⟩) (i := 9) (hi := rfl) (hs := by kernel_rfl) (hfr := by kernel_rfl) (hr := by kernel_rfl) (hQ := (by repeat (first | exact NoPanic.fpost | apply NoPanic.then_ | apply NoPanic.block))) (hd := rfl); case hx => (first | exact Ex.nilCheck rfl))
      first | (apply GA.take [] (hD := .inl rfl) (hsub := ⟨_, Takes.nil⟩) (i := 10) (hi := rfl) (hs := by kernel_rfl) (hfr := by kernel_rfl) (hr := by kernel_rfl) (hQ := (by repeat (first | exact NoPanic.fpost | apply NoPanic.then_ | apply NoPanic.block))) (hd := rfl); case hx => (first | exact Ex.fieldE rfl))
      refine GA.one (i := 11) (by kernel_rfl) rfl ?_
      first | refine G.storeT0 rfl rfl rfl rfl (by first | omega | (simp; omega)) rfl ((⟨(fs.getD i default).q, (fs.getD i default).w, (fs.getD i default).d + (fs.getD i default).q, true⟩ : Fl)) (by rw [gs]; rfl) (fun rs_ hrs_ => ?_) | refine G.storeT rfl rfl rfl rfl (by first | omega | (simp; omega)) rfl ((⟨(fs.getD i default).q, (fs.getD i default).w, (fs.getD i default).d + (fs.getD i default).q, true⟩ : Fl)) (by rw [gs]; rfl) (fun rs_ hrs_ => ?_) | refine G.storeTA rfl rfl (by first | omega | (simp; omega)) rfl ((⟨(fs.getD i default).q, (fs.getD i default).w, (fs.getD i default).d + (fs.getD i default).q, true⟩ : Fl)) (by rw [gs]; rfl) (fun rs_ hrs_ => ?_)
      try simp only at hrs_
      subst hrs_
      simp only [ss]
      try refine G.nil ?_
      refine GA.back (by first | exact .inl (by decide) | exact .inr ⟨_, (by repeat (first | exact Takes.nil | apply Takes.dup rfl | apply Takes.cons | exact Take1.here | apply Take1.there))⟩) ?_
      refine GA.done (by kernel_rfl) ?_
      rw [show (⟨(fs.getD i default).q, (fs.getD i default).w, (fs.getD i default).d + (fs.getD i default).q, true⟩ : Fl) = fdF (fs.getD i default) by
        unfold fdF fed
        rw [if_neg (show ¬ (ab (fs.getD i default)).fed = true from hfd)]; rfl]
      refine GE.meet () trivial (by simp only [fits]; repeat (first | exact trivial | refine And.intro rfl ?_)) (by repeat (first | exact Takes.nil | apply Takes.dup rfl | apply Takes.cons | exact Take1.here | apply Take1.there)) (by repeat (first | exact Subs.refl | refine Subs.skip ?_))
  · rintro _ _ fr_ rs_ hfr_ hrs_
    simp only [List.cons_append, List.nil_append] at hfr_ hrs_
    subst hfr_ hrs_
    obtain ⟨hfo, _, _, _⟩ := fed_ok hok
    have hfo' : FlOk (ab (fdF (fs.getD i default))) := by rw [ab_fdF]; exact hfo
    have hd' : 0 ≤ (fdF (fs.getD i default)).d ∧ (fdF (fs.getD i default)).d ≤ 3000 := hfo'.d
    have gw : (fdF (fs.getD i default)).w = (fs.getD i default).w := rfl
    repeat (first | refine GC.seq ?_ | refine GE.then_normal ?_)
    refine GC.conv (fun w_ H_ => Holds.starAt (i := i) (by simpa [wvs] using hi) (H_.take (need := [.own (Star (wvs fs))]) (by repeat (first | exact Takes.nil | apply Takes.dup rfl | apply Takes.cons | exact Take1.here | apply Take1.there)))) ?_
    try simp only [List.append_eq, List.nil_append, List.cons_append]
    rw [wvs_at fs i hi]
    unfold wv
    refine GC.drawA [] [.vec 107 4 fo N fc (flat eF (fs.set i (fdF (fs.getD i default)))), .vec 3 1 (fs.getD i default).w.ao (fs.getD i default).w.n (fs.getD i default).w.c (flat (eI .i64) (fs.getD i default).w.l)] (by repeat (first | exact Takes.nil | apply Takes.dup rfl | apply Takes.cons | exact Take1.here | apply Take1.there)) (by kernel_rfl) ?_
    first | (apply GA.take [] (hD := .inl rfl) (hsub := ⟨_, Takes.nil⟩) (i := 0) (hi := rfl) (hs := by kernel_rfl) (hfr := by kernel_rfl) (hr := by kernel_rfl) (hQ := (by repeat (first | exact NoPanic.fpost | apply NoPanic.then_ | apply NoPanic.block))) (hd := rfl); case hx => (first | exact Ex.move rfl))
    first | (apply GA.take [] (hD := .inl rfl) (hsub := ⟨_, Takes.nil⟩) (i := 1) (hi := rfl) (hs := by kernel_rfl) (hfr := by kernel_rfl) (hr := by kernel_rfl) (hQ := (by repeat (first | exact NoPanic.fpost | apply NoPanic.then_ | apply NoPanic.block))) (hd := rfl); case hx => (first | exact Ex.nilCheck rfl))
    first | (apply GA.take [] (hD := .inl rfl) (hsub := ⟨_, Takes.nil⟩) (i := 2) (hi := rfl) (hs := by kernel_rfl) (hfr := by kernel_rfl) (hr := by kernel_rfl) (hQ := (by repeat (first | exact NoPanic.fpost | apply NoPanic.then_ | apply NoPanic.block))) (hd := rfl); case hx => (first | exact Ex.fieldE rfl))
    first | (apply GA.take _ (hD := .inr ⟨rfl, by kernel_rfl⟩) (hsub := ⟨_, (by repeat (first | exact Takes.nil | apply Takes.dup rfl | apply Takes.cons | exact Take1.here | apply Take1.there))⟩) (i := 3) (hi := rfl) (hs := by kernel_rfl) (hfr := by kernel_rfl) (hr := by kernel_rfl) (hQ := (by repeat (first | exact NoPanic.fpost | apply NoPanic.then_ | apply NoPanic.block))) (hd := rfl); case hx => (first | exact Ex.loadT rfl (by first | omega | (simp; done) | (simp; omega)) rfl))
    simp only [gs, gw]
    first | (apply GA.take _ (hD := .inr ⟨rfl, by kernel_rfl⟩) (hsub := ⟨_, (by repeat (first | exact Takes.nil | apply Takes.dup rfl | apply Takes.cons | exact Take1.here | apply Take1.there))⟩) (i := 4) (hi := rfl) (hs := by kernel_rfl) (hfr := by kernel_rfl) (hr := by kernel_rfl) (hQ := (by repeat (first | exact NoPanic.fpost | apply NoPanic.then_ | apply NoPanic.block))) (hd := rfl); case hx => (first | exact Ex.indexN rfl rfl (by first | omega | (simp; done) | (simp; omega))))
    first | (apply GA.take _ (hD := .inr ⟨rfl, by kernel_rfl⟩) (hsub := ⟨_, (by repeat (first | exact Takes.nil | apply Takes.dup rfl | apply Takes.cons | exact Take1.here | apply Take1.there))⟩) (i := 5) (hi := rfl) (hs := by kernel_rfl) (hfr := by kernel_rfl) (hr := by kernel_rfl) (hQ := (by repeat (first | exact NoPanic.fpost | apply NoPanic.then_ | apply NoPanic.block))) (hd := rfl); case hx => (first | exact Ex.loadT0 rfl (by first | omega | (simp; done) | (simp; omega)) rfl))
    first | (apply GA.take [] (hD := .inl rfl) (hsub := ⟨_, Takes.nil⟩) (i := 6) (hi := rfl) (hs := by kernel_rfl) (hfr := by kernel_rfl) (hr := by kernel_rfl) (hQ := (by repeat (first | exact NoPanic.fpost | apply NoPanic.then_ | apply NoPanic.block))) (hd := rfl); case hx => (first | exact Ex.move rfl))
    first | (apply GA.take [] (hD := .inl rfl) (hsub := ⟨_, Takes.nil⟩) (i := 7) (hi := rfl) (hs := by kernel_rfl) (hfr := by kernel_rfl) (hr := by kernel_rfl) (hQ := (by repeat (first | exact NoPanic.fpost | apply NoPanic.then_ | apply NoPanic.block))) (hd := rfl); case hx => (first | exact Ex.nilCheck rfl))
    first | (apply GA.take [] (hD := .inl rfl) (hsub := ⟨_, Takes.nil⟩) (i := 8) (hi := rfl) (hs := by kernel_rfl) (hfr := by kernel_rfl) (hr := by kernel_rfl) (hQ := (by repeat (first | exact NoPanic.fpost | apply NoPanic.then_ | apply NoPanic.block))) (hd := rfl); case hx => (first | exact Ex.fieldE rfl))
    first | (apply GA.take _ (hD := .inr ⟨rfl, by kernel_rfl⟩) (hsub := ⟨_, (by repeat (first | exact Takes.nil | apply Takes.dup rfl | apply Takes.cons | exact Take1.here | apply Take1.there))⟩) (i := 9) (hi := rfl) (hs := by kernel_rfl) (hfr := by kernel_rfl) (hr := by kernel_rfl) (hQ := (by repeat (first | exact NoPanic.fpost | apply NoPanic.then_ | apply NoPanic.block))) (hd := rfl); case hx => (first | exact Ex.loadT rfl (by first | omega | (simp; done) | (simp; omega)) rfl))
    simp only [gs, gw]
    first | (apply GA.take [] (hD := .inl rfl) (hsub := ⟨_, Takes.nil⟩) (i := 10) (hi := rfl) (hs := by kernel_rfl) (hfr := by kernel_rfl) (hr := by kernel_rfl) (hQ := (by repeat (first | exact NoPanic.fpost | apply NoPanic.then_ | apply NoPanic.block))) (hd := rfl); case hx => (first | exact Ex.leq rfl rfl))
    refine GA.done (by kernel_rfl) ?_
    refine GE.conv (fun w_ H_ => Holds.starBack (by simpa [wvs] using hi) (H_.take (need := [.vec 3 1 (fs.getD i default).w.ao (fs.getD i default).w.n (fs.getD i default).w.c (flat (eI .i64) (fs.getD i default).w.l), .own (Star ((wvs fs).eraseIdx i))]) (by repeat (first | exact Takes.nil | apply Takes.dup rfl | apply Takes.cons | exact Take1.here | apply Take1.there)))) ?_
    try simp only [List.append_eq, List.nil_append, List.cons_append]
    rw [show (wvs fs).set i (.vec 3 1 (fs.getD i default).w.ao (fs.getD i default).w.n (fs.getD i default).w.c (flat (eI .i64) (fs.getD i default).w.l)) = wvs (fs.set i (fdF (fs.getD i default))) from wvs_set fs i (fdF (fs.getD i default))]
    by_cases hr : Ready (ab (fs.getD i default))
    · have hr' : (fs.getD i default).w.l.getD 0 default ≤ (fdF (fs.getD i default)).d := hr
      repeat (first | (apply G.ex (hd := rfl); case h => (first | exact Ex.move rfl)) | refine GC.seq ?_ | refine GC.region ?_ | refine GE.then_normal ?_ | refine GC.cond_yes rfl (by first | assumption | omega) ?_)
      have S := sent_sp rb fo fc to_ tc (fs.set i (fdF (fs.getD i default))) T i (by simpa using hi) (by rw [List.length_set]; omega) (hf.set hn) (by rw [gs]; rfl) (by rw [gs]; exact hfo') (by rw [gs]; exact hne)
      simp only [List.length_set, hl, gs, ss, gw] at S
      first | refine G.call (caps := []) (S) rfl rfl rfl rfl (by repeat (first | exact Takes.nil | apply Takes.dup rfl | apply Takes.cons | exact Take1.here | apply Take1.there)) ?_ | refine G.callU (caps := []) (S) rfl rfl rfl (by repeat (first | exact Takes.nil | apply Takes.dup rfl | apply Takes.cons | exact Take1.here | apply Take1.there)) ?_
      rintro v_ give_ ⟨to2, tc2, x2, rfl, hx2, hab, rfl⟩ rs_ hrs_
      simp only [List.cons_append, List.nil_append] at hrs_
      subst hrs_
      repeat (first | refine G.storeBA rfl rfl rfl rfl rfl ?_ | refine G.nil ?_ | refine GC.ret ?_ | refine GE.then_normal ?_ | refine GE.then_ret ?_ | refine GE.block_ret ?_)
      have e : sent (fs.map ab) i T = ((fs.set i x2).map ab, if (fs.getD i default).w.l.tail = [] then T else i :: T) := by
        unfold sent
        rw [map_ab_at fs i hi, List.map_set, hab, ab_fdF, less_fed]; rfl
      have hnow := Sends.now (fs.map ab) i T (by rw [map_ab_at fs i hi]; exact hr)
      rw [e, map_ab_at fs i hi] at hnow
      refine GE.ret (by first | exact .inl rfl | exact .inr rfl) (by first | exact res0 Try.results46 | exact res1 Try.results46 rfl | exact res2 Try.results46 rfl rfl | exact resR1 Try.results46 (by first | exact RV.tmp rfl | exact RV.cell rfl rfl | exact RV.cell1 rfl) | exact resR2 Try.results46 (by first | exact RV.tmp rfl | exact RV.cell rfl rfl | exact RV.cell1 rfl) (by first | exact RV.tmp rfl | exact RV.cell rfl rfl | exact RV.cell1 rfl) | exact resR3 Try.results46 (by first | exact RV.tmp rfl | exact RV.cell rfl rfl | exact RV.cell1 rfl) (by first | exact RV.tmp rfl | exact RV.cell rfl rfl | exact RV.cell1 rfl) (by first | exact RV.tmp rfl | exact RV.cell rfl rfl | exact RV.cell1 rfl)) ⟨to2, tc2, fs.set i x2, _, (i, (fs.getD i default).w.l.getD 0 default), hS _ _ hnow, rfl, hf.set hx2, by rw [List.length_set, hl], rfl⟩ (by repeat (first | exact Takes.nil | apply Takes.dup rfl | apply Takes.cons | exact Take1.here | apply Take1.there)) (by repeat (first | exact Subs.refl | refine Subs.skip ?_))
    · have hr' : ¬ (fs.getD i default).w.l.getD 0 default ≤ (fdF (fs.getD i default)).d := hr
      have htT : flat eN T = (((flat eN (i :: T)).drop (1 * 1)).take ((T.length + 1 - 1) * 1)) := by
        rw [flat_drop (s := 1) inferInstance, flat_take (s := 1) inferInstance, List.drop_one, List.take_of_length_le (by rw [List.length_tail]; simp)]; rfl
      repeat (first | (apply G.ex (hd := rfl); case h => (first | exact Ex.move rfl | exact Ex.nilCheck rfl | exact Ex.fieldE rfl)) | refine GC.seq ?_ | refine GC.region ?_ | refine GC.skip ?_ | refine GE.then_normal ?_ | refine GC.cond_no rfl (by first | assumption | omega) ?_)
      first | refine G.storeT0 rfl rfl rfl rfl (by first | omega | (simp; omega)) rfl ((ltF (fs.getD i default))) (by rw [gs]; rfl) (fun rs_ hrs_ => ?_) | refine G.storeT rfl rfl rfl rfl (by first | omega | (simp; omega)) rfl ((ltF (fs.getD i default))) (by rw [gs]; rfl) (fun rs_ hrs_ => ?_) | refine G.storeTA rfl rfl (by first | omega | (simp; omega)) rfl ((ltF (fs.getD i default))) (by rw [gs]; rfl) (fun rs_ hrs_ => ?_)
      try simp only at hrs_
      subst hrs_
      simp only [ss]
      repeat (first | (apply G.ex (hd := rfl); case h => (first | exact Ex.move rfl | exact Ex.nilCheck rfl | exact Ex.fieldB rfl | exact Ex.loadB rfl rfl)) | refine G.nil ?_ | refine GC.region ?_ | refine GE.then_normal ?_)
      refine G.subV (l := 1) (r := (T.length + 1)) rfl (by first | exact .inl ⟨rfl, rfl⟩ | exact .inr ⟨_, _, rfl, ev_int rfl (by omega)⟩) (by first | exact .inl ⟨rfl, rfl⟩ | exact .inr ⟨_, _, rfl, ev_int rfl (by omega)⟩) (by omega) rfl (htT.symm) (fun o3 rs_ hrs_ => ?_)
      try simp only at hrs_
      subst hrs_
      simp only [Nat.add_sub_cancel]
      repeat (first | (apply G.ex (hd := rfl); case h => (first | exact Ex.move rfl)))
      obtain ⟨j, T2, hT2⟩ : ∃ j T2, T ++ [i] = j :: T2 := by cases T <;> simp
      have hT2l : T.length + 1 = T2.length + 1 := by have := congrArg List.length hT2; simpa using this
      have hcat : flat eN T ++ flat eN [i] = flat eN (j :: T2) := by rw [← hT2]; exact (flat_append ..).symm
      refine G.lit rfl (by rfl) (by rfl) (by rfl) (by rfl) (by rfl) (by rfl) rfl (fun y => ?_)
      repeat (first | fail)
      refine G.app rfl rfl (by rfl) (by omega) rfl (hcat) (fun o4 c4 rs_ hrs_ => ?_)
      try simp only at hrs_
      subst hrs_
      rw [hT2l]
      repeat (first | refine G.storeB rfl rfl rfl rfl rfl ?_ | (apply G.ex (hd := rfl); case h => (first | exact Ex.nilCheck rfl | exact Ex.fieldB rfl)) | refine G.nil ?_ | refine GE.block_normal ?_)
      rw [show wvs (fs.set i (fdF (fs.getD i default))) = wvs (fs.set i (ltF (fs.getD i default))) by rw [← wvs_set, ← wvs_set]; rfl]
      have hrr : rot (fs.map ab) i T = ((fs.set i (ltF (fs.getD i default))).map ab, j :: T2) := by
        unfold rot
        rw [map_ab_at fs i hi, List.map_set, hT2]; rfl
      have hnr : ¬ Ready (at_ (fs.map ab) i) := by rw [map_ab_at fs i hi]; exact hr
      have hwf := rot_wf hw hnr
      rw [hrr] at hwf
      refine GE.loop (j, T2, fs.set i (ltF (fs.getD i default)), o4, c4) ⟨by simp only [List.length_set]; exact hl, hf.set hn, hwf, (fun s o h => hS s o (.later _ _ _ _ _ hnr (by rw [hrr]; exact h)))⟩ (mu_set fs i _ hi (mf_lt hok hr)) (by simp only [fits]; repeat (first | exact trivial | refine And.intro rfl ?_)) (by repeat (first | exact Takes.nil | apply Takes.dup rfl | apply Takes.cons | exact Take1.here | apply Take1.there)) (by repeat (first | exact Subs.refl | refine Subs.skip ?_))
end fair
end Go.Proofs.Ytcabcpealkbekaa
