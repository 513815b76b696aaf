/-
  CONTRACTS of (*fair.ring).sent and sends, by the kit.
-/
import Derived.Test.YtcabcpealkbekaaFair2
import Derived.Test.YtcabcpealkbekaaFairQ
namespace Go.Proofs.Ytcabcpealkbekaa
open Go.RowKit
attribute [local irreducible] Ex G GC GE Gq FPost LPost
set_option linter.unusedVariables false
set_option linter.unusedSimpArgs false

namespace fair
theorem set_at {α : Type} [Inhabited α] (l : List α) (i : Nat) (x : α) (h : i < l.length) : (l.set i x).getD i default = x := by
  rw [List.getD_eq_getElem?_getD, List.getElem?_set_self h]; rfl
theorem ab_at (fs : List Fl) (i : Nat) (x : Fl) (h : i < fs.length) (e : ab (fs.getD i default) = ab x) : (fs.set i x).map ab = fs.map ab := by
  rw [List.map_set]
  apply List.ext_getElem?
  intro j
  rw [List.getElem?_set]
  by_cases hj : i = j
  · subst hj
    rw [if_pos rfl, if_pos (by simpa using h)]
    rw [← e, List.getElem?_map, List.getD_eq_getElem?_getD, List.getElem?_eq_getElem h]; rfl
  · rw [if_neg hj]
set_option maxHeartbeats 4000000 in
theorem sent_sp (rb : Nat) (fo : Option Addr) (fc : Nat) (to_ : Option Addr) (tc : Nat) (fs : List Fl) (T : List Nat) (i : Nat) (hi : i < fs.length) (h6 : fs.length ≤ 6) (hf : Fits fs) (hfed : (fs.getD i default).fed = true)
    (hok : FlOk (ab (fs.getD i default))) (hne : (fs.getD i default).w.l ≠ []) :
    Spec Try.prog 56 [.pointer (some (badr rb 0)), .int .i64 (i : Int)] [.blk rb 105 [.slice fo fs.length fc, .slice to_ (T.length + 1) tc], .vec 107 4 fo fs.length fc (flat eF fs), .vec 3 1 to_ (T.length + 1) tc (flat eN (i :: T)), .own (Star (wvs fs))]
      fun v give => ∃ to2 tc2 x2, v = .agg (eV 0 (i : Int) ((fs.getD i default).w.l.getD 0 default)).toArray ∧ x2.w.l.length = x2.w.n ∧ ab x2 = less (ab (fs.getD i default)) ∧ 
        give = [.blk rb 105 [.slice fo fs.length fc, .slice to2 (if (fs.getD i default).w.l.tail = [] then T else i :: T).length tc2], .vec 107 4 fo fs.length fc (flat eF (fs.set i x2)), .vec 3 1 to2 (if (fs.getD i default).w.l.tail = [] then T else i :: T).length tc2 (flat eN (if (fs.getD i default).w.l.tail = [] then T else i :: T)), .own (Star (wvs (fs.set i x2)))] := by
  have hn := hf.n _ (fl_mem fs i hi)
  have hd : 0 ≤ (fs.getD i default).d ∧ (fs.getD i default).d ≤ 3000 := hok.d
  have hh : (fs.getD i default).w.l.getD 0 default ≤ 1500 ∧ 0 ≤ (fs.getD i default).w.l.getD 0 default := head_le hok
  have hl0 : 0 < (fs.getD i default).w.l.length := List.length_pos_iff.2 hne
  have hl40 : (fs.getD i default).w.l.length ≤ 40 := hok.len
  have hn0 : 0 < (fs.getD i default).w.n := by omega
  have gs : ∀ Z : Fl, (fs.set i Z).getD i default = Z := fun Z => set_at fs i Z hi
  have ss : ∀ Y Z : Fl, (fs.set i Y).set i Z = fs.set i Z := fun Y Z => List.set_set ..
  have htl : flat (eI .i64) (fs.getD i default).w.l.tail = (((flat (eI .i64) (fs.getD i default).w.l).drop (1 * 1)).take (((fs.getD i default).w.n - 1) * 1)) := by
    rw [flat_drop (s := 1) inferInstance, flat_take (s := 1) inferInstance, List.drop_one, List.take_of_length_le (by rw [List.length_tail]; omega)]
  have htT : flat eN T = (((flat eN (i :: T)).drop (1 * 1)).take ((T.length + 1 - 1) * 1)) := by
    rw [flat_drop (s := 1) inferInstance, flat_take (s := 1) inferInstance, List.drop_one, List.take_of_length_le (by rw [List.length_tail]; simp)]; rfl
  refine Spec.intro Try.func56 rfl Try.ntmps56 rfl fun w0 rest rs_ hrs_ => ?_
  simp only [List.cons_append, List.nil_append] at hrs_
  subst hrs_
  refine GC.conv (fun w_ H_ => Holds.starAt (i := i) (by simpa [wvs] using hi) (H_.take (need := [.own (Star (wvs fs))]) (by repeat (first | exact Takes.nil | apply Takes.dup rfl | apply Takes.cons | exact Take1.here | apply Take1.there)))) ?_
  try simp only [List.append_eq, List.nil_append, List.cons_append]
  rw [wvs_at fs i hi]
  unfold wv
  repeat (first | refine GC.seq ?_ | refine GC.region ?_)
  refine G.alloc rfl (fun b4 => ?_)
  repeat (first | (apply G.ex (hd := rfl); case h => (first | exact Ex.move rfl | exact Ex.nilCheck rfl | exact Ex.fieldE rfl | exact Ex.fieldB rfl | exact Ex.loadB rfl rfl | exact Ex.indexN rfl rfl (by first | omega | (simp; done) | (simp; omega)) | exact Ex.loadT0 rfl (by first | omega | (simp; done) | (simp; omega)) rfl | exact Ex.loadT rfl (by first | omega | (simp; done) | (simp; omega)) rfl | exact Ex.assign rfl | exact Ex.build rfl rfl)) | refine G.nil ?_ | refine GC.seq ?_ | refine GC.region ?_ | refine GE.then_normal ?_)
  refine G.alloc rfl (fun b6 => ?_)
  repeat (first | refine G.storeBA rfl rfl rfl rfl rfl ?_ | refine G.nil ?_ | refine GC.seq ?_ | refine GE.then_normal ?_)
  refine GC.drawA [9] [.vec 107 4 fo fs.length fc (flat eF fs), .blk b6 59 [.int .i64 0, .int .i64 (i : Int), .int .i64 ((fs.getD i default).w.l.getD 0 default)]] (by repeat (first | exact Takes.nil | apply Takes.dup rfl | apply Takes.cons | exact Take1.here | apply Take1.there)) (by kernel_rfl) ?_
  first | (apply GA.take [] (hD := .inl rfl) (hsub := ⟨_, Takes.nil⟩) (i := 0) (hi := rfl) (hs := by kernel_rfl) (hfr := by kernel_rfl) (hr := by kernel_rfl) (hQ := (by repeat (first | exact NoPanic.fpost | apply NoPanic.then_ | apply NoPanic.block))) (hd := rfl); case hx => (first | exact Ex.move rfl))
  first | (apply GA.take [] (hD := .inl rfl) (hsub := ⟨_, Takes.nil⟩) (i := 1) (hi := rfl) (hs := by kernel_rfl) (hfr := by kernel_rfl) (hr := by kernel_rfl) (hQ := (by repeat (first | exact NoPanic.fpost | apply NoPanic.then_ | apply NoPanic.block))) (hd := rfl); case hx => (first | exact Ex.nilCheck rfl))
  first | (apply GA.take [] (hD := .inl rfl) (hsub := ⟨_, Takes.nil⟩) (i := 2) (hi := rfl) (hs := by kernel_rfl) (hfr := by kernel_rfl) (hr := by kernel_rfl) (hQ := (by repeat (first | exact NoPanic.fpost | apply NoPanic.then_ | apply NoPanic.block))) (hd := rfl); case hx => (first | exact Ex.fieldE rfl))
  first | (apply GA.take _ (hD := .inr ⟨rfl, by kernel_rfl⟩) (hsub := ⟨_, (by repeat (first | exact Takes.nil | apply Takes.dup rfl | apply Takes.cons | exact Take1.here | apply Take1.there))⟩) (i := 3) (hi := rfl) (hs := by kernel_rfl) (hfr := by kernel_rfl) (hr := by kernel_rfl) (hQ := (by repeat (first | exact NoPanic.fpost | apply NoPanic.then_ | apply NoPanic.block))) (hd := rfl); case hx => (first | exact Ex.loadT rfl (by first | omega | (simp; done) | (simp; omega)) rfl))
  first | (apply GA.take [] (hD := .inl rfl) (hsub := ⟨_, Takes.nil⟩) (i := 4) (hi := rfl) (hs := by kernel_rfl) (hfr := by kernel_rfl) (hr := by kernel_rfl) (hQ := (by repeat (first | exact NoPanic.fpost | apply NoPanic.then_ | apply NoPanic.block))) (hd := rfl); case hx => (first | exact Ex.fieldB rfl))
  first | (apply GA.take _ (hD := .inr ⟨rfl, by kernel_rfl⟩) (hsub := ⟨_, (by repeat (first | exact Takes.nil | apply Takes.dup rfl | apply Takes.cons | exact Take1.here | apply Take1.there))⟩) (i := 5) (hi := rfl) (hs := by kernel_rfl) (hfr := by kernel_rfl) (hr := by kernel_rfl) (hQ := (by repeat (first | exact NoPanic.fpost | apply NoPanic.then_ | apply NoPanic.block))) (hd := rfl); case hx => (first | exact Ex.loadB rfl rfl))
  first | (apply GA.take [] (hD := .inl rfl) (hsub := ⟨_, Takes.nil⟩) (i := 6) (hi := rfl) (hs := by kernel_rfl) (hfr := by kernel_rfl) (hr := by kernel_rfl) (hQ := (by repeat (first | exact NoPanic.fpost | apply NoPanic.then_ | apply NoPanic.block))) (hd := rfl); case hx => (first | exact Ex.sub rfl rfl (by omega)))
  first | (apply GA.take [] (hD := .inl rfl) (hsub := ⟨_, Takes.nil⟩) (i := 7) (hi := rfl) (hs := by kernel_rfl) (hfr := by kernel_rfl) (hr := by kernel_rfl) (hQ := (by repeat (first | exact NoPanic.fpost | apply NoPanic.then_ | apply NoPanic.block))) (hd := rfl); case hx => (first | exact Ex.nilCheck rfl))
  first | (apply GA.take [] (hD := .inl rfl) (hsub := ⟨_, Takes.nil⟩) (i := 8) (hi := rfl) (hs := by kernel_rfl) (hfr := by kernel_rfl) (hr := by kernel_rfl) (hQ := (by repeat (first | exact NoPanic.fpost | apply NoPanic.then_ | apply NoPanic.block))) (hd := rfl); case hx => (first | exact Ex.fieldE rfl))
  refine GA.one (i := 9) (by kernel_rfl) rfl ?_
  first | refine G.storeT0 rfl rfl rfl rfl (by first | omega | (simp; omega)) rfl ((⟨(fs.getD i default).q, (fs.getD i default).w, (fs.getD i default).d - (fs.getD i default).w.l.getD 0 default, (fs.getD i default).fed⟩ : Fl)) (rfl) (fun rs_ hrs_ => ?_) | refine G.storeT rfl rfl rfl rfl (by first | omega | (simp; omega)) rfl ((⟨(fs.getD i default).q, (fs.getD i default).w, (fs.getD i default).d - (fs.getD i default).w.l.getD 0 default, (fs.getD i default).fed⟩ : Fl)) (rfl) (fun rs_ hrs_ => ?_) | refine G.storeTA rfl rfl (by first | omega | (simp; omega)) rfl ((⟨(fs.getD i default).q, (fs.getD i default).w, (fs.getD i default).d - (fs.getD i default).w.l.getD 0 default, (fs.getD i default).fed⟩ : Fl)) (rfl) (fun rs_ hrs_ => ?_)
  try simp only at hrs_
  subst hrs_
  try refine G.nil ?_
  refine GA.back (by first | exact .inl (by decide) | exact .inr ⟨_, (by repeat (first | exact Takes.nil | apply Takes.dup rfl | apply Takes.cons | exact Take1.here | apply Take1.there))⟩) ?_
  refine GA.done (by kernel_rfl) ?_
  repeat (first | (apply G.ex (hd := rfl); case h => (first | exact Ex.move rfl | exact Ex.nilCheck rfl | exact Ex.fieldE rfl | exact Ex.loadT rfl (by first | omega | (simp; done) | (simp; omega)) rfl)) | refine GC.seq ?_ | refine GC.region ?_ | refine GE.then_normal ?_)
  simp only [gs]
  refine G.subV (l := 1) (r := (fs.getD i default).w.n) rfl (by first | exact .inl ⟨rfl, rfl⟩ | exact .inr ⟨_, _, rfl, ev_int rfl (by omega)⟩) (by first | exact .inl ⟨rfl, rfl⟩ | exact .inr ⟨_, _, rfl, ev_int rfl (by omega)⟩) (by omega) rfl (htl.symm) (fun o2 rs_ hrs_ => ?_)
  try simp only at hrs_
  subst hrs_
  repeat (first | (apply G.ex (hd := rfl); case h => (first | exact Ex.nilCheck rfl | exact Ex.fieldE rfl)))
  first | refine G.storeT0 rfl rfl rfl rfl (by first | omega | (simp; omega)) rfl ((⟨(fs.getD i default).q, ⟨o2, (fs.getD i default).w.n - 1, (fs.getD i default).w.c - 1, (fs.getD i default).w.l.tail⟩, (fs.getD i default).d - (fs.getD i default).w.l.getD 0 default, (fs.getD i default).fed⟩ : Fl)) (by rw [gs]; rfl) (fun rs_ hrs_ => ?_) | refine G.storeT rfl rfl rfl rfl (by first | omega | (simp; omega)) rfl ((⟨(fs.getD i default).q, ⟨o2, (fs.getD i default).w.n - 1, (fs.getD i default).w.c - 1, (fs.getD i default).w.l.tail⟩, (fs.getD i default).d - (fs.getD i default).w.l.getD 0 default, (fs.getD i default).fed⟩ : Fl)) (by rw [gs]; rfl) (fun rs_ hrs_ => ?_) | refine G.storeTA rfl rfl (by first | omega | (simp; omega)) rfl ((⟨(fs.getD i default).q, ⟨o2, (fs.getD i default).w.n - 1, (fs.getD i default).w.c - 1, (fs.getD i default).w.l.tail⟩, (fs.getD i default).d - (fs.getD i default).w.l.getD 0 default, (fs.getD i default).fed⟩ : Fl)) (by rw [gs]; rfl) (fun rs_ hrs_ => ?_)
  try simp only at hrs_
  subst hrs_
  simp only [ss]
  by_cases ht : (fs.getD i default).w.l.tail = []
  · have hn1 : (fs.getD i default).w.n = 1 := by
      have := congrArg List.length ht
      simp only [List.length_tail, List.length_nil] at this
      omega
    simp only [ht, if_true]
    repeat (first | (apply G.ex (hd := rfl); case h => (first | exact Ex.move rfl | exact Ex.nilCheck rfl | exact Ex.fieldE rfl | exact Ex.eqI rfl rfl | exact Ex.lenSl rfl | exact Ex.loadT rfl (by first | omega | (simp; done) | (simp; omega)) rfl)) | refine G.nil ?_ | refine GC.seq ?_ | refine GC.region ?_ | refine GE.then_normal ?_)
    simp only [gs]
    repeat (first | (apply G.ex (hd := rfl); case h => (first | exact Ex.move rfl | exact Ex.nilCheck rfl | exact Ex.fieldE rfl)) | refine GC.seq ?_ | refine GC.region ?_ | refine GC.cond_yes rfl (by first | assumption | omega) ?_)
    first | refine G.storeT0 rfl rfl rfl rfl (by first | omega | (simp; omega)) rfl ((⟨(fs.getD i default).q, ⟨o2, (fs.getD i default).w.n - 1, (fs.getD i default).w.c - 1, []⟩, 0, (fs.getD i default).fed⟩ : Fl)) (by rw [gs]; rfl) (fun rs_ hrs_ => ?_) | refine G.storeT rfl rfl rfl rfl (by first | omega | (simp; omega)) rfl ((⟨(fs.getD i default).q, ⟨o2, (fs.getD i default).w.n - 1, (fs.getD i default).w.c - 1, []⟩, 0, (fs.getD i default).fed⟩ : Fl)) (by rw [gs]; rfl) (fun rs_ hrs_ => ?_) | refine G.storeTA rfl rfl (by first | omega | (simp; omega)) rfl ((⟨(fs.getD i default).q, ⟨o2, (fs.getD i default).w.n - 1, (fs.getD i default).w.c - 1, []⟩, 0, (fs.getD i default).fed⟩ : Fl)) (by rw [gs]; rfl) (fun rs_ hrs_ => ?_)
    try simp only at hrs_
    subst hrs_
    simp only [ss]
    repeat (first | (apply G.ex (hd := rfl); case h => (first | exact Ex.nilCheck rfl | exact Ex.fieldE rfl)))
    first | refine G.storeT0 rfl rfl rfl rfl (by first | omega | (simp; omega)) rfl ((⟨(fs.getD i default).q, ⟨o2, (fs.getD i default).w.n - 1, (fs.getD i default).w.c - 1, []⟩, 0, false⟩ : Fl)) (by rw [gs]; rfl) (fun rs_ hrs_ => ?_) | refine G.storeT rfl rfl rfl rfl (by first | omega | (simp; omega)) rfl ((⟨(fs.getD i default).q, ⟨o2, (fs.getD i default).w.n - 1, (fs.getD i default).w.c - 1, []⟩, 0, false⟩ : Fl)) (by rw [gs]; rfl) (fun rs_ hrs_ => ?_) | refine G.storeTA rfl rfl (by first | omega | (simp; omega)) rfl ((⟨(fs.getD i default).q, ⟨o2, (fs.getD i default).w.n - 1, (fs.getD i default).w.c - 1, []⟩, 0, false⟩ : Fl)) (by rw [gs]; rfl) (fun rs_ hrs_ => ?_)
    try simp only at hrs_
    subst hrs_
    simp only [ss]
    repeat (first | (apply G.ex (hd := rfl); case h => (first | exact Ex.move rfl | exact Ex.nilCheck rfl | exact Ex.fieldB rfl | exact Ex.loadB rfl rfl)) | refine G.nil ?_ | refine GC.region ?_ | refine GE.then_normal ?_)
    refine G.subV (l := 1) (r := (T.length + 1)) rfl (by first | exact .inl ⟨rfl, rfl⟩ | exact .inr ⟨_, _, rfl, ev_int rfl (by omega)⟩) (by first | exact .inl ⟨rfl, rfl⟩ | exact .inr ⟨_, _, rfl, ev_int rfl (by omega)⟩) (by omega) rfl (htT.symm) (fun o3 rs_ hrs_ => ?_)
    try simp only at hrs_
    subst hrs_
    simp only [Nat.add_sub_cancel]
    repeat (first | refine G.storeB rfl rfl rfl rfl rfl ?_ | refine G.storeBA rfl rfl rfl rfl rfl ?_ | (apply G.ex (hd := rfl); case h => (first | exact Ex.nilCheck rfl | exact Ex.fieldB rfl | exact Ex.loadBA rfl rfl rfl)) | refine G.nil ?_ | refine GC.seq ?_ | refine GC.region ?_ | refine GC.ret ?_ | refine GE.then_normal ?_)
    refine GE.conv (fun w_ H_ => Holds.starBack (by simpa [wvs] using hi) (H_.take (need := [.vec 3 1 o2 ((fs.getD i default).w.n - 1) ((fs.getD i default).w.c - 1) (flat (eI .i64) []), .own (Star ((wvs fs).eraseIdx i))]) (by repeat (first | exact Takes.nil | apply Takes.dup rfl | apply Takes.cons | exact Take1.here | apply Take1.there)))) ?_
    try simp only [List.append_eq, List.nil_append, List.cons_append]
    rw [show (wvs fs).set i (.vec 3 1 o2 ((fs.getD i default).w.n - 1) ((fs.getD i default).w.c - 1) (flat (eI .i64) [])) = wvs (fs.set i (⟨(fs.getD i default).q, ⟨o2, (fs.getD i default).w.n - 1, (fs.getD i default).w.c - 1, []⟩, 0, false⟩ : Fl)) from wvs_set fs i (⟨(fs.getD i default).q, ⟨o2, (fs.getD i default).w.n - 1, (fs.getD i default).w.c - 1, []⟩, 0, false⟩ : Fl)]
    refine GE.ret (by first | exact .inl rfl | exact .inr rfl) (by first | exact res0 Try.results56 | exact res1 Try.results56 rfl | exact res2 Try.results56 rfl rfl | exact resR1 Try.results56 (by first | exact RV.tmp rfl | exact RV.cell rfl rfl | exact RV.cell1 rfl) | exact resR2 Try.results56 (by first | exact RV.tmp rfl | exact RV.cell rfl rfl | exact RV.cell1 rfl) (by first | exact RV.tmp rfl | exact RV.cell rfl rfl | exact RV.cell1 rfl) | exact resR3 Try.results56 (by first | exact RV.tmp rfl | exact RV.cell rfl rfl | exact RV.cell1 rfl) (by first | exact RV.tmp rfl | exact RV.cell rfl rfl | exact RV.cell1 rfl) (by first | exact RV.tmp rfl | exact RV.cell rfl rfl | exact RV.cell1 rfl)) ⟨o3, tc - 1, (⟨(fs.getD i default).q, ⟨o2, (fs.getD i default).w.n - 1, (fs.getD i default).w.c - 1, []⟩, 0, false⟩ : Fl), rfl, by simp only [List.length_nil]; omega, ?_, rfl⟩ (by repeat (first | exact Takes.nil | apply Takes.dup rfl | apply Takes.cons | exact Take1.here | apply Take1.there)) (by repeat (first | exact Subs.refl | refine Subs.skip ?_))
    unfold less
    rw [if_pos (show (ab (fs.getD i default)).w.tail = [] from ht)]
    rfl
  · have hn1 : ¬ (fs.getD i default).w.n = 1 := fun e => ht (List.eq_nil_of_length_eq_zero (by rw [List.length_tail]; omega))
    simp only [ht, if_false]
    repeat (first | (apply G.ex (hd := rfl); case h => (first | exact Ex.move rfl | exact Ex.nilCheck rfl | exact Ex.fieldE rfl | exact Ex.eqI rfl rfl | exact Ex.lenSl rfl | exact Ex.loadT rfl (by first | omega | (simp; done) | (simp; omega)) rfl)) | refine G.nil ?_ | refine GC.seq ?_ | refine GC.region ?_ | refine GE.then_normal ?_)
    simp only [gs]
    repeat (first | refine G.storeBA rfl rfl rfl rfl rfl ?_ | (apply G.ex (hd := rfl); case h => (first | exact Ex.loadBA rfl rfl rfl)) | refine G.nil ?_ | refine GC.seq ?_ | refine GC.region ?_ | refine GC.skip ?_ | refine GC.ret ?_ | refine GE.then_normal ?_ | refine GC.cond_no rfl (by first | assumption | omega) ?_)
    refine GE.conv (fun w_ H_ => Holds.starBack (by simpa [wvs] using hi) (H_.take (need := [.vec 3 1 o2 ((fs.getD i default).w.n - 1) ((fs.getD i default).w.c - 1) (flat (eI .i64) (fs.getD i default).w.l.tail), .own (Star ((wvs fs).eraseIdx i))]) (by repeat (first | exact Takes.nil | apply Takes.dup rfl | apply Takes.cons | exact Take1.here | apply Take1.there)))) ?_
    try simp only [List.append_eq, List.nil_append, List.cons_append]
    rw [show (wvs fs).set i (.vec 3 1 o2 ((fs.getD i default).w.n - 1) ((fs.getD i default).w.c - 1) (flat (eI .i64) (fs.getD i default).w.l.tail)) = wvs (fs.set i (⟨(fs.getD i default).q, ⟨o2, (fs.getD i default).w.n - 1, (fs.getD i default).w.c - 1, (fs.getD i default).w.l.tail⟩, (fs.getD i default).d - (fs.getD i default).w.l.getD 0 default, (fs.getD i default).fed⟩ : Fl)) from wvs_set fs i (⟨(fs.getD i default).q, ⟨o2, (fs.getD i default).w.n - 1, (fs.getD i default).w.c - 1, (fs.getD i default).w.l.tail⟩, (fs.getD i default).d - (fs.getD i default).w.l.getD 0 default, (fs.getD i default).fed⟩ : Fl)]
    refine GE.ret (by first | exact .inl rfl | exact .inr rfl) (by first | exact res0 Try.results56 | exact res1 Try.results56 rfl | exact res2 Try.results56 rfl rfl | exact resR1 Try.results56 (by first | exact RV.tmp rfl | exact RV.cell rfl rfl | exact RV.cell1 rfl) | exact resR2 Try.results56 (by first | exact RV.tmp rfl | exact RV.cell rfl rfl | exact RV.cell1 rfl) (by first | exact RV.tmp rfl | exact RV.cell rfl rfl | exact RV.cell1 rfl) | exact resR3 Try.results56 (by first | exact RV.tmp rfl | exact RV.cell rfl rfl | exact RV.cell1 rfl) (by first | exact RV.tmp rfl | exact RV.cell rfl rfl | exact RV.cell1 rfl) (by first | exact RV.tmp rfl | exact RV.cell rfl rfl | exact RV.cell1 rfl)) ⟨to_, tc, (⟨(fs.getD i default).q, ⟨o2, (fs.getD i default).w.n - 1, (fs.getD i default).w.c - 1, (fs.getD i default).w.l.tail⟩, (fs.getD i default).d - (fs.getD i default).w.l.getD 0 default, (fs.getD i default).fed⟩ : Fl), rfl, by simp only [List.length_tail]; omega, ?_, rfl⟩ (by repeat (first | exact Takes.nil | apply Takes.dup rfl | apply Takes.cons | exact Take1.here | apply Take1.there)) (by repeat (first | exact Subs.refl | refine Subs.skip ?_))
    unfold less
    rw [if_neg (show ¬ (ab (fs.getD i default)).w.tail = [] from ht), show fed (ab (fs.getD i default)) = ab (fs.getD i default) from if_pos hfed, show (true : Bool) = (fs.getD i default).fed from hfed.symm]
    rfl
end fair
end Go.Proofs.Ytcabcpealkbekaa
