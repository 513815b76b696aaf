/-
  CONTRACTS of the wire's heard and back, by the kit.
-/
import Derived.Test.YtcllddkhnbnigaaPipeD
namespace Go.Proofs.Ytcllddkhnbnigaa
open Go.RowKit
attribute [local irreducible] Ex G GC GE Gq FPost LPost
set_option linter.unusedVariables false
set_option linter.unusedSimpArgs false
namespace send
theorem done_sp (hb : Nat) (a b d e f g : Value) (n : Int) : Spec Try.prog 57 [.pointer (some (badr hb 0))] [.blk hb 79 [a, b, .int .i64 n, d, e, f, g]] fun v give => v = .int .i64 n ∧ give = [.blk hb 79 [a, b, .int .i64 n, d, e, f, g]] := by
  refine Spec.intro Try.func57 rfl Try.ntmps57 rfl fun w0 rest rs_ hrs_ => ?_
  simp only [List.cons_append, List.nil_append] at hrs_
  subst hrs_
  repeat (first | (apply G.ex (hd := rfl); case h => (first | exact Ex.move rfl | exact Ex.nilCheck rfl | exact Ex.fieldB rfl | exact Ex.loadB rfl rfl | exact Ex.assign rfl)) | refine G.nil ?_ | refine GC.seq ?_ | refine GC.region ?_ | refine GC.ret ?_ | refine GE.then_normal ?_)
  refine GE.ret (by first | exact .inl rfl | exact .inr rfl) (res1 Try.results57 rfl) ⟨rfl, rfl⟩ (by repeat first | exact tn_ | apply td_ rfl | apply tc_ | exact .here | apply Take1.there) (by repeat (first | exact Subs.refl | refine Subs.skip ?_))
end send
namespace pipe
open hole
set_option maxHeartbeats 1000000 in
theorem placeC_sp (ub nb ab wb : Nat) (first : Int) (hf : 0 ≤ first ∧ first < 65536) (x y z : Value) (al : Bool) (s p : Int) (hs : 0 ≤ s ∧ s < 65536) (hp : 0 ≤ p ∧ p ≤ 1048576) :
    Spec Try.prog 58 [.int .i64 s, .pointer (some (badr ub 0)), .pointer (some (badr nb 0)), .pointer (some (badr ab 0))] [.blk ub 51 [.pointer (some (badr wb 0))], .blk nb 3 [.int .i64 p], .blk ab 4 [.bool al], .blk wb 60 [.int .i64 first, x, y, z]]
      fun v give => v = .int .i64 (pl first s p) ∧ give = [.blk ub 51 [.pointer (some (badr wb 0))], .blk nb 3 [.int .i64 p], .blk ab 4 [.bool (al && decide (0 ≤ pl first s p))], .blk wb 60 [.int .i64 first, x, y, z]] := by
  have hplc := place_sp wb first hf x y z s p hs hp
  refine Spec.intro Try.func58 rfl Try.ntmps58 rfl fun w0 rest rs_ hrs_ => ?_
  simp only [List.cons_append, List.nil_append] at hrs_
  subst hrs_
  repeat (first | (apply G.ex (hd := rfl); case h => (first | exact Ex.move rfl | exact Ex.loadB rfl rfl | exact Ex.assign rfl)) | refine G.nil ?_ | refine GC.seq ?_ | refine GC.region ?_ | refine GE.then_normal ?_)
  first | refine G.call (caps := []) (hplc) rfl rfl rfl rfl (by repeat first | exact tn_ | apply td_ rfl | apply tc_ | exact .here | apply Take1.there) ?_ | refine G.callU (caps := []) (hplc) rfl rfl rfl (by repeat first | exact tn_ | apply td_ rfl | apply tc_ | exact .here | apply Take1.there) ?_
  rintro v_ give_ ⟨rfl, rfl⟩ rs_ hrs_
  simp only [List.cons_append, List.nil_append] at hrs_
  subst hrs_
  cases al with
  | true =>
    repeat (first | refine G.storeB rfl rfl rfl rfl rfl ?_ | (apply G.ex (hd := rfl); case h => (first | exact Ex.move rfl | exact Ex.loadB rfl rfl | exact Ex.extract rfl rfl | exact Ex.assign rfl | exact Ex.pickLT rfl rfl)) | refine G.yes rfl rfl ?_ | refine G.nil ?_ | refine GC.seq ?_ | refine GC.region ?_ | refine GC.ret ?_ | refine GE.then_normal ?_)
    rw [Bool.true_and]
    refine GE.ret (by first | exact .inl rfl | exact .inr rfl) (res1 Try.results58 rfl) ⟨rfl, rfl⟩ (by repeat first | exact tn_ | apply td_ rfl | apply tc_ | exact .here | apply Take1.there) (by repeat (first | exact Subs.refl | refine Subs.skip ?_))
  | false =>
    repeat (first | refine G.storeB rfl rfl rfl rfl rfl ?_ | (apply G.ex (hd := rfl); case h => (first | exact Ex.move rfl | exact Ex.loadB rfl rfl | exact Ex.extract rfl rfl | exact Ex.assign rfl | exact Ex.pickLF rfl rfl)) | refine G.l_tf rfl rfl rfl ?_ | refine G.nil ?_ | refine GC.seq ?_ | refine GC.region ?_ | refine GC.ret ?_ | refine GE.then_normal ?_)
    rw [Bool.false_and]
    refine GE.ret (by first | exact .inl rfl | exact .inr rfl) (res1 Try.results58 rfl) ⟨rfl, rfl⟩ (by repeat first | exact tn_ | apply td_ rfl | apply tc_ | exact .here | apply Take1.there) (by repeat (first | exact Subs.refl | refine Subs.skip ?_))
def okR (f q : Int) (r : R) : Bool := decide (0 ≤ pl f r.1 q) && decide (0 ≤ pl f r.2 q)
def alF (f q a : Int) (l : List R) (i : Nat) : Bool := decide (0 ≤ pl f a q) && (l.take i).all (okR f q)
theorem alF_zero (f q a : Int) (l : List R) : alF f q a l 0 = decide (0 ≤ pl f a q) := by unfold alF; simp
theorem alF_succ (f q a : Int) (l : List R) (i : Nat) (h : i < l.length) : (alF f q a l i && decide (0 ≤ pl f (l.getD i default).1 q) && decide (0 ≤ pl f (l.getD i default).2 q)) = alF f q a l (i + 1) := by
  unfold alF
  rw [List.take_succ_eq_append_getElem h, List.all_append, List.getD_eq_getElem?_getD, List.getElem?_eq_getElem h]
  simp [okR, Bool.and_assoc]
theorem alF_all (f q a : Int) (l : List R) : alF f q a l l.length = true ↔ ¬ (pl f a q < 0 ∨ ∃ r ∈ l, pl f r.1 q < 0 ∨ pl f r.2 q < 0) := by
  unfold alF
  rw [List.take_length, Bool.and_eq_true, decide_eq_true_iff, List.all_eq_true]
  constructor
  · rintro ⟨h1, h2⟩ (h | ⟨r, hr, h⟩)
    · omega
    · have := h2 r hr
      unfold okR at this
      rw [Bool.and_eq_true, decide_eq_true_iff, decide_eq_true_iff] at this
      omega
  · intro h
    refine ⟨?_, fun r hr => ?_⟩
    · rcases Classical.em (pl f a q < 0) with e | e
      · exact absurd (.inl e) h
      · omega
    · unfold okR
      rw [Bool.and_eq_true, decide_eq_true_iff, decide_eq_true_iff]
      rcases Classical.em (pl f r.1 q < 0 ∨ pl f r.2 q < 0) with e | e
      · exact absurd (.inr ⟨r, hr, e⟩) h
      · omega
set_option maxHeartbeats 8000000 in
theorem heard_sp (wb : Nat) (m : WM) (w : Wi) (N : Nat) (hw : MW m w) (k : WOk w N) (id : Int) :
    Spec Try.prog 40 [.pointer (some (badr wb 0)), .int .i64 id] [.own (Star (wR wb m w))]
      fun v give => ∃ m', MW m' (heardF w id).1 ∧ m'.FM.length = m.FM.length ∧ v = .agg (ePa ⟨(heardF w id).2, none, 0⟩).toArray ∧ give = [.own (Star (wR wb m' (heardF w id).1))] := by
  obtain ⟨sb, hb, da, dc, mo, mc, ea, ec, no_, nc, fo, fc, FM⟩ := m
  obtain ⟨e, s, ht⟩ : ∃ e s, takenF w id true = (e, s) := ⟨_, _, rfl⟩
  have hfs : FM.map (·.f) = w.fs := hw.fs
  have ht' : takenL (FM.map (·.f)) id true = (e, s) := by rw [hfs]; exact ht
  have htk := taken_sp wb (.int .i64 w.first) (.pointer (some (badr sb 0))) (.pointer (some (badr hb 0))) fo fc FM hw.n hw.b id true e s ht'
  have hof : e = 0 → seg.Rng s ∧ seg.flt s = 0 := by
    intro he
    have h0 : (takenF w id true).1 = 0 := by rw [ht]; exact he
    obtain ⟨f, s', _, hs', _, hs2⟩ := taken_ok k h0
    rw [ht] at hs2
    simp only at hs2
    subst hs2
    exact ⟨hs'.rng, hs'.flt⟩
  unfold heardF
  rw [ht]
  simp only
  have hdn := send.done_sp sb (.slice da w.se.data.length dc) (.bool w.se.closed) (.slice mo w.se.more.length mc) (.int .i64 w.se.next) (.int .i64 w.se.again) (.int .i64 w.se.edge) w.se.done
  have hd0 := k.se.may.d0
  have hd1 := k.se.dle
  have hd2 := k.se.la
  have hd3 := k.se.ne
  have hd4 := k.se.end1
  refine Spec.intro Try.func40 rfl Try.ntmps40 rfl fun w0 rest rs_ hrs_ => ?_
  simp only [List.cons_append, List.nil_append] at hrs_
  subst hrs_
  refine GC.conv (rs' := _) (fun w_ H_ => Holds.starOuts (l := [.blk wb 60 [.int .i64 ((w).first), .pointer (some (badr sb 0)), .pointer (some (badr hb 0)), .slice fo (FM).length fc], .vec 92 3 fo (FM).length fc (flat eFr (FM)), .own (Star ((FM).map rFr)), .blk sb 79 [.slice da ((w).se).data.length dc, .bool ((w).se).closed, .int .i64 ((w).se).done, .slice mo ((w).se).more.length mc, .int .i64 ((w).se).next, .int .i64 ((w).se).again, .int .i64 ((w).se).edge], .vec 5 1 da ((w).se).data.length dc (flat eB ((w).se).data), .sl mo ((w).se).more.length mc 2 (flat eR ((w).se).more), .blk hb 81 [.int .i64 ((w).he).room, .slice ea ((w).he).data.length ec, .int .i64 ((w).he).done, .slice no_ ((w).he).more.length nc, .int .i64 ((w).he).taken, .int .i64 ((w).he).end_], .vec 5 1 ea ((w).he).data.length ec (flat eB ((w).he).data), .sl no_ ((w).he).more.length nc 2 (flat eR ((w).he).more)]) (H_.take (need := [.own (Star ([.blk wb 60 [.int .i64 ((w).first), .pointer (some (badr sb 0)), .pointer (some (badr hb 0)), .slice fo (FM).length fc], .vec 92 3 fo (FM).length fc (flat eFr (FM)), .own (Star ((FM).map rFr)), .blk sb 79 [.slice da ((w).se).data.length dc, .bool ((w).se).closed, .int .i64 ((w).se).done, .slice mo ((w).se).more.length mc, .int .i64 ((w).se).next, .int .i64 ((w).se).again, .int .i64 ((w).se).edge], .vec 5 1 da ((w).se).data.length dc (flat eB ((w).se).data), .sl mo ((w).se).more.length mc 2 (flat eR ((w).se).more), .blk hb 81 [.int .i64 ((w).he).room, .slice ea ((w).he).data.length ec, .int .i64 ((w).he).done, .slice no_ ((w).he).more.length nc, .int .i64 ((w).he).taken, .int .i64 ((w).he).end_], .vec 5 1 ea ((w).he).data.length ec (flat eB ((w).he).data), .sl no_ ((w).he).more.length nc 2 (flat eR ((w).he).more)]))]) (by repeat first | exact tn_ | apply td_ rfl | apply tc_ | exact .here | apply Take1.there))) ?_
  try simp only [List.append_eq, List.nil_append, List.cons_append]
  repeat (first | refine GC.seq ?_ | refine GC.region ?_)
  refine G.box rfl rfl rfl (fun ub => ?_)
  repeat (first | fail)
  refine G.alloc rfl (fun rb => ?_)
  repeat (first | (apply G.ex (hd := rfl); case h => (first | exact Ex.move rfl | exact Ex.loadB rfl rfl)) | refine G.nil ?_ | refine GC.seq ?_ | refine GC.region ?_ | refine GE.then_normal ?_)
  first | refine G.call (caps := []) (htk) rfl rfl rfl rfl (by repeat first | exact tn_ | apply td_ rfl | apply tc_ | exact .here | apply Take1.there) ?_ | refine G.callU (caps := []) (htk) rfl rfl rfl (by repeat first | exact tn_ | apply td_ rfl | apply tc_ | exact .here | apply Take1.there) ?_
  rintro v_ give_ ⟨ra, rc, xa, xc, rfl, rfl⟩ rs_ hrs_
  simp only [List.cons_append, List.nil_append] at hrs_
  subst hrs_
  repeat (first | (apply G.ex (hd := rfl); case h => (first | exact Ex.move rfl | exact Ex.extract rfl rfl)))
  refine G.alloc rfl (fun qb => ?_)
  repeat (first | refine G.storeBA rfl rfl rfl rfl rfl ?_ | (apply G.ex (hd := rfl); case h => (first | exact Ex.move rfl | exact Ex.neI rfl rfl | exact Ex.assign rfl)) | refine G.nil ?_ | refine GC.seq ?_ | refine GC.region ?_ | refine GE.then_normal ?_)
  by_cases he : e = 0
  · subst he
    rw [if_neg (fun h => h rfl)]
    obtain ⟨hrng, hflt⟩ := hof rfl
    obtain ⟨h3, h64⟩ := seg.flt_len hflt
    first | refine G.frz ra ?_ | refine GC.frz ra ?_ | refine GE.frz ra ?_
    repeat (first | (apply G.ex (hd := rfl); case h => (first | exact Ex.nilCheck rfl | exact Ex.fieldB rfl | exact Ex.loadB rfl rfl)) | refine GC.seq ?_ | refine GC.region ?_ | refine GC.skip ?_ | refine GE.then_normal ?_ | refine GC.cond_no rfl (by first | assumption | omega) ?_)
    first | refine G.call (caps := []) (hdn) rfl rfl rfl rfl (by repeat first | exact tn_ | apply td_ rfl | apply tc_ | exact .here | apply Take1.there) ?_ | refine G.callU (caps := []) (hdn) rfl rfl rfl (by repeat first | exact tn_ | apply td_ rfl | apply tc_ | exact .here | apply Take1.there) ?_
    rintro v_ give_ ⟨rfl, rfl⟩ rs_ hrs_
    simp only [List.cons_append, List.nil_append] at hrs_
    subst hrs_
    refine G.alloc rfl (fun nb => ?_)
    repeat (first | refine G.storeB rfl rfl rfl rfl rfl ?_ | refine G.nil ?_ | refine GC.seq ?_ | refine GC.region ?_ | refine GE.then_normal ?_)
    refine G.alloc rfl (fun ab => ?_)
    repeat (first | refine G.storeB rfl rfl rfl rfl rfl ?_ | (apply G.ex (hd := rfl); case h => (first | exact Ex.assign rfl | exact Ex.mkFunc rfl)) | refine G.nil ?_ | refine GC.seq ?_ | refine GC.region ?_ | refine GE.then_normal ?_)
    refine GC.meet (ι := Nat) (fun _ => True) (fun db => [(2, .pointer (some (badr ub 0))), (4, .pointer (some (badr rb 0))), (5, .pointer (some (badr qb 0))), (7, .pointer (some (badr nb 0))), (8, .pointer (some (badr ab 0))), (9, .func (.func 58) #[] #[.pointer (some (badr ub 0)), .pointer (some (badr nb 0)), .pointer (some (badr ab 0))]), (10, .pointer (some (badr db 0)))]) (fun db => [.blk db 63 [.int .i64 2, .slice none 0 0, .int .i64 (pl w.first s.a w.se.done), .int .i64 s.w, .slice none 0 0], .blk ab 4 [.bool (alF w.first w.se.done s.a s.sk 0)], .blk nb 3 [.int .i64 w.se.done], .blk ub 51 [.pointer (some (badr wb 0))], .blk rb 39 [.int .i64 0, .bool false, .int .i64 0, .slice none 0 0, .bool false, .int .i64 0], .blk qb 89 (seg.eSg s ra rc xa xc), .sl ra s.sk.length rc 2 (flat eR s.sk), .blk wb 60 [.int .i64 ((w).first), .pointer (some (badr sb 0)), .pointer (some (badr hb 0)), .slice fo (FM).length fc], .vec 92 3 fo (FM).length fc (flat eFr (FM)), .own (Star ((FM).map rFr)), .blk sb 79 [.slice da ((w).se).data.length dc, .bool ((w).se).closed, .int .i64 ((w).se).done, .slice mo ((w).se).more.length mc, .int .i64 ((w).se).next, .int .i64 ((w).se).again, .int .i64 ((w).se).edge], .vec 5 1 da ((w).se).data.length dc (flat eB ((w).se).data), .sl mo ((w).se).more.length mc 2 (flat eR ((w).se).more), .blk hb 81 [.int .i64 ((w).he).room, .slice ea ((w).he).data.length ec, .int .i64 ((w).he).done, .slice no_ ((w).he).more.length nc, .int .i64 ((w).he).taken, .int .i64 ((w).he).end_], .vec 5 1 ea ((w).he).data.length ec (flat eB ((w).he).data), .sl no_ ((w).he).more.length nc 2 (flat eR ((w).he).more)]) rest ?_ ?_
    · rw [alF_zero]
      have hplc := placeC_sp ub nb ab wb w.first k.f (.pointer (some (badr sb 0))) (.pointer (some (badr hb 0))) (.slice fo FM.length fc) true s.a w.se.done hrng.a ⟨hd0, by omega⟩
      rw [Bool.true_and] at hplc
      refine GC.drawA [] [.blk qb 89 (seg.eSg s ra rc xa xc)] (by repeat first | exact tn_ | apply td_ rfl | apply tc_ | exact .here | apply Take1.there) (by kernel_rfl) ?_
      first | (apply GA.take [] (hD := .inl rfl) (hsub := ⟨_, Takes.nil⟩) (i := 0) (hi := rfl) (hs := by kernel_rfl) (hfr := by kernel_rfl) (hr := by kernel_rfl) (hQ := np_) (hd := rfl); case hx => (first | exact Ex.move rfl))
      first | (apply GA.take [] (hD := .inl rfl) (hsub := ⟨_, Takes.nil⟩) (i := 1) (hi := rfl) (hs := by kernel_rfl) (hfr := by kernel_rfl) (hr := by kernel_rfl) (hQ := np_) (hd := rfl); case hx => (first | exact Ex.fieldB rfl))
      first | (apply GA.take _ (hD := .inr ⟨rfl, by kernel_rfl⟩) (hsub := ⟨_, (by repeat first | exact tn_ | apply td_ rfl | apply tc_ | exact .here | apply Take1.there)⟩) (i := 2) (hi := rfl) (hs := by kernel_rfl) (hfr := by kernel_rfl) (hr := by kernel_rfl) (hQ := np_) (hd := rfl); case hx => (first | exact Ex.loadB rfl rfl))
      first | (apply GA.take [] (hD := .inl rfl) (hsub := ⟨_, Takes.nil⟩) (i := 4) (hi := rfl) (hs := by kernel_rfl) (hfr := by kernel_rfl) (hr := by kernel_rfl) (hQ := np_) (hd := rfl); case hx => (first | exact Ex.fieldB rfl))
      first | (apply GA.take _ (hD := .inr ⟨rfl, by kernel_rfl⟩) (hsub := ⟨_, (by repeat first | exact tn_ | apply td_ rfl | apply tc_ | exact .here | apply Take1.there)⟩) (i := 5) (hi := rfl) (hs := by kernel_rfl) (hfr := by kernel_rfl) (hr := by kernel_rfl) (hQ := np_) (hd := rfl); case hx => (first | exact Ex.loadB rfl rfl))
      refine GA.two (i := 3) (j := 7) (by kernel_rfl) rfl rfl ?_ ?_
      · first | refine G.call (hplc) rfl rfl rfl rfl (by repeat first | exact tn_ | apply td_ rfl | apply tc_ | exact .here | apply Take1.there) ?_ | refine G.callU (hplc) rfl rfl rfl (by repeat first | exact tn_ | apply td_ rfl | apply tc_ | exact .here | apply Take1.there) ?_
        rintro v_ give_ ⟨rfl, rfl⟩ rs_ hrs_
        simp only [List.cons_append, List.nil_append] at hrs_
        subst hrs_
        try refine G.nil ?_
        refine GA.back (by first | exact .inl (by decide) | exact .inr ⟨_, (by repeat first | exact tn_ | apply td_ rfl | apply tc_ | exact .here | apply Take1.there)⟩) ?_
        first | (apply GA.take [] (hD := .inl rfl) (hsub := ⟨_, Takes.nil⟩) (i := 6) (hi := rfl) (hs := by kernel_rfl) (hfr := by kernel_rfl) (hr := by kernel_rfl) (hQ := np_) (hd := rfl); case hx => (first | exact Ex.build rfl rfl))
        refine GA.one (i := 7) (by kernel_rfl) rfl ?_
        refine G.alloc rfl (fun db => ?_)
        try refine G.nil ?_
        refine GA.back (by first | exact .inl (by decide) | exact .inr ⟨_, (by repeat first | exact tn_ | apply td_ rfl | apply tc_ | exact .here | apply Take1.there)⟩) ?_
        refine GA.one (i := 8) (by kernel_rfl) rfl ?_
        first | refine G.storeBA rfl rfl rfl rfl rfl ?_
        try refine G.nil ?_
        refine GA.back (by first | exact .inl (by decide) | exact .inr ⟨_, (by repeat first | exact tn_ | apply td_ rfl | apply tc_ | exact .here | apply Take1.there)⟩) ?_
        refine GA.done (by kernel_rfl) ?_
        refine GE.meet db trivial (by simp only [fits]; repeat (first | exact trivial | refine And.intro rfl ?_)) (by repeat first | exact tn_ | apply td_ rfl | apply tc_ | exact .here | apply Take1.there) (by repeat (first | exact Subs.refl | refine Subs.skip ?_))
      · refine G.alloc rfl (fun db => ?_)
        try refine G.nil ?_
        refine GA.back (by first | exact .inl (by decide) | exact .inr ⟨_, (by repeat first | exact tn_ | apply td_ rfl | apply tc_ | exact .here | apply Take1.there)⟩) ?_
        refine GA.one (i := 3) (by kernel_rfl) rfl ?_
        first | refine G.call (hplc) rfl rfl rfl rfl (by repeat first | exact tn_ | apply td_ rfl | apply tc_ | exact .here | apply Take1.there) ?_ | refine G.callU (hplc) rfl rfl rfl (by repeat first | exact tn_ | apply td_ rfl | apply tc_ | exact .here | apply Take1.there) ?_
        rintro v_ give_ ⟨rfl, rfl⟩ rs_ hrs_
        simp only [List.cons_append, List.nil_append] at hrs_
        subst hrs_
        try refine G.nil ?_
        refine GA.back (by first | exact .inl (by decide) | exact .inr ⟨_, (by repeat first | exact tn_ | apply td_ rfl | apply tc_ | exact .here | apply Take1.there)⟩) ?_
        first | (apply GA.take [] (hD := .inl rfl) (hsub := ⟨_, Takes.nil⟩) (i := 6) (hi := rfl) (hs := by kernel_rfl) (hfr := by kernel_rfl) (hr := by kernel_rfl) (hQ := np_) (hd := rfl); case hx => (first | exact Ex.build rfl rfl))
        refine GA.one (i := 8) (by kernel_rfl) rfl ?_
        first | refine G.storeBA rfl rfl rfl rfl rfl ?_
        try refine G.nil ?_
        refine GA.back (by first | exact .inl (by decide) | exact .inr ⟨_, (by repeat first | exact tn_ | apply td_ rfl | apply tc_ | exact .here | apply Take1.there)⟩) ?_
        refine GA.done (by kernel_rfl) ?_
        refine GE.meet db trivial (by simp only [fits]; repeat (first | exact trivial | refine And.intro rfl ?_)) (by repeat first | exact tn_ | apply td_ rfl | apply tc_ | exact .here | apply Take1.there) (by repeat (first | exact Subs.refl | refine Subs.skip ?_))
    · rintro db - fr_ rs_ hfr_ hrs_
      simp only [List.cons_append, List.nil_append] at hfr_ hrs_
      subst hfr_ hrs_
      repeat (first | (apply G.ex (hd := rfl); case h => (first | exact Ex.move rfl | exact Ex.fieldB rfl | exact Ex.loadB rfl rfl | exact Ex.lenSl rfl)) | refine G.nil ?_ | refine GC.seq ?_ | refine GC.region ?_ | refine GC.block ?_ | refine GE.then_normal ?_)
      first | refine G.nilvec 102 2 ?_ | refine GC.nilvec 102 2 ?_
      refine GC.loop (ι := Nat × Option Addr × Nat) (fun x => x.1 ≤ s.sk.length) (fun x => s.sk.length - x.1) (fun x => [(2, .pointer (some (badr ub 0))), (4, .pointer (some (badr rb 0))), (5, .pointer (some (badr qb 0))), (7, .pointer (some (badr nb 0))), (8, .pointer (some (badr ab 0))), (9, .func (.func 58) #[] #[.pointer (some (badr ub 0)), .pointer (some (badr nb 0)), .pointer (some (badr ab 0))]), (10, .pointer (some (badr db 0))), (37, .slice ra s.sk.length rc), (38, .int .i64 (s.sk.length : Int)), (39, .int .i64 (x.1 : Int))]) (fun x => [.blk db 63 [.int .i64 2, .slice none 0 0, .int .i64 (pl w.first s.a w.se.done), .int .i64 s.w, .slice x.2.1 x.1 x.2.2], .vec 102 2 x.2.1 x.1 x.2.2 (flat eR ((s.sk.take x.1).map (plR w.first w.se.done))), .blk ab 4 [.bool (alF w.first w.se.done s.a s.sk x.1)], .blk nb 3 [.int .i64 w.se.done], .blk ub 51 [.pointer (some (badr wb 0))], .blk rb 39 [.int .i64 0, .bool false, .int .i64 0, .slice none 0 0, .bool false, .int .i64 0], .blk qb 89 (seg.eSg s ra rc xa xc), .sl ra s.sk.length rc 2 (flat eR s.sk), .blk wb 60 [.int .i64 ((w).first), .pointer (some (badr sb 0)), .pointer (some (badr hb 0)), .slice fo (FM).length fc], .vec 92 3 fo (FM).length fc (flat eFr (FM)), .own (Star ((FM).map rFr)), .blk sb 79 [.slice da ((w).se).data.length dc, .bool ((w).se).closed, .int .i64 ((w).se).done, .slice mo ((w).se).more.length mc, .int .i64 ((w).se).next, .int .i64 ((w).se).again, .int .i64 ((w).se).edge], .vec 5 1 da ((w).se).data.length dc (flat eB ((w).se).data), .sl mo ((w).se).more.length mc 2 (flat eR ((w).se).more), .blk hb 81 [.int .i64 ((w).he).room, .slice ea ((w).he).data.length ec, .int .i64 ((w).he).done, .slice no_ ((w).he).more.length nc, .int .i64 ((w).he).taken, .int .i64 ((w).he).end_], .vec 5 1 ea ((w).he).data.length ec (flat eB ((w).he).data), .sl no_ ((w).he).more.length nc 2 (flat eR ((w).he).more)]) (0, none, 0) (Nat.zero_le _) (by simp only [fits]; repeat (first | exact trivial | refine And.intro rfl ?_)) (by repeat first | exact tn_ | apply td_ rfl | apply tc_ | exact .here | apply Take1.there) ?_
      rintro ⟨i, ro, rk⟩ hi fr_ rs_ hfr_ hrs_
      simp only [List.cons_append, List.nil_append] at hfr_ hrs_
      subst hfr_ hrs_
      simp only at hi
      repeat (first | (apply G.ex (hd := rfl); case h => (first | exact Ex.lss rfl rfl)) | refine G.nil ?_ | refine GC.seq ?_ | refine GC.region ?_ | refine GE.then_normal ?_)
      refine GC.cond_dec rfl (fun hlt => ?_) (fun hlt => ?_)
      · have hlt : i < s.sk.length := by omega
        repeat (first | (apply G.ex (hd := rfl); case h => (first | exact Ex.indexN rfl rfl (by first | omega | (simp; done) | (simp; omega)) | exact Ex.loadTA rfl (by first | omega | (simp; done) | (simp; omega)))) | refine GC.seq ?_ | refine GC.region ?_ | refine GC.block ?_ | refine GC.skip ?_ | refine GE.then_normal ?_)
        have hmem : s.sk.getD i default ∈ s.sk := by rw [List.getD_eq_getElem?_getD, List.getElem?_eq_getElem hlt]; exact List.getElem_mem hlt
        have hsi := hrng.sk _ hmem
        have hm1 := placeC_sp ub nb ab wb w.first k.f (.pointer (some (badr sb 0))) (.pointer (some (badr hb 0))) (.slice fo FM.length fc) (alF w.first w.se.done s.a s.sk i) (s.sk.getD i default).1 w.se.done hsi.1 ⟨hd0, by omega⟩
        have hm2 := placeC_sp ub nb ab wb w.first k.f (.pointer (some (badr sb 0))) (.pointer (some (badr hb 0))) (.slice fo FM.length fc) (alF w.first w.se.done s.a s.sk i && decide (0 ≤ pl w.first (s.sk.getD i default).1 w.se.done)) (s.sk.getD i default).2 w.se.done hsi.2 ⟨hd0, by omega⟩
        rw [alF_succ _ _ _ _ _ hlt] at hm2
        have hcat : flat eR ((s.sk.take i).map (plR w.first w.se.done)) ++ flat eR [plR w.first w.se.done (s.sk.getD i default)] = flat eR ((s.sk.take (i + 1)).map (plR w.first w.se.done)) := by
          rw [← flat_append, List.take_succ_eq_append_getElem hlt, List.map_append, List.getD_eq_getElem?_getD, List.getElem?_eq_getElem hlt]; rfl
        refine G.alloc rfl (fun yb => ?_)
        repeat (first | refine G.storeBA rfl rfl rfl rfl rfl ?_ | refine G.nil ?_ | refine GE.then_normal ?_)
        refine GC.drawA [14] [.blk db 63 [.int .i64 2, .slice none 0 0, .int .i64 (pl w.first s.a w.se.done), .int .i64 s.w, .slice ro i rk], .blk yb 102 (eR (s.sk.getD i default))] (by repeat first | exact tn_ | apply td_ rfl | apply tc_ | exact .here | apply Take1.there) (by kernel_rfl) ?_
        first | (apply GA.take [] (hD := .inl rfl) (hsub := ⟨_, Takes.nil⟩) (i := 0) (hi := rfl) (hs := by kernel_rfl) (hfr := by kernel_rfl) (hr := by kernel_rfl) (hQ := np_) (hd := rfl); case hx => (first | exact Ex.fieldB rfl))
        first | (apply GA.take _ (hD := .inr ⟨rfl, by kernel_rfl⟩) (hsub := ⟨_, (by repeat first | exact tn_ | apply td_ rfl | apply tc_ | exact .here | apply Take1.there)⟩) (i := 1) (hi := rfl) (hs := by kernel_rfl) (hfr := by kernel_rfl) (hr := by kernel_rfl) (hQ := np_) (hd := rfl); case hx => (first | exact Ex.loadB rfl rfl))
        first | (apply GA.take [] (hD := .inl rfl) (hsub := ⟨_, Takes.nil⟩) (i := 2) (hi := rfl) (hs := by kernel_rfl) (hfr := by kernel_rfl) (hr := by kernel_rfl) (hQ := np_) (hd := rfl); case hx => (first | exact Ex.move rfl))
        first | (apply GA.take [] (hD := .inl rfl) (hsub := ⟨_, Takes.nil⟩) (i := 3) (hi := rfl) (hs := by kernel_rfl) (hfr := by kernel_rfl) (hr := by kernel_rfl) (hQ := np_) (hd := rfl); case hx => (first | exact Ex.fieldB rfl))
        first | (apply GA.take _ (hD := .inr ⟨rfl, by kernel_rfl⟩) (hsub := ⟨_, (by repeat first | exact tn_ | apply td_ rfl | apply tc_ | exact .here | apply Take1.there)⟩) (i := 4) (hi := rfl) (hs := by kernel_rfl) (hfr := by kernel_rfl) (hr := by kernel_rfl) (hQ := np_) (hd := rfl); case hx => (first | exact Ex.loadB rfl rfl))
        first | (apply GA.take [] (hD := .inl rfl) (hsub := ⟨_, Takes.nil⟩) (i := 6) (hi := rfl) (hs := by kernel_rfl) (hfr := by kernel_rfl) (hr := by kernel_rfl) (hQ := np_) (hd := rfl); case hx => (first | exact Ex.move rfl))
        first | (apply GA.take [] (hD := .inl rfl) (hsub := ⟨_, Takes.nil⟩) (i := 7) (hi := rfl) (hs := by kernel_rfl) (hfr := by kernel_rfl) (hr := by kernel_rfl) (hQ := np_) (hd := rfl); case hx => (first | exact Ex.fieldB rfl))
        first | (apply GA.take _ (hD := .inr ⟨rfl, by kernel_rfl⟩) (hsub := ⟨_, (by repeat first | exact tn_ | apply td_ rfl | apply tc_ | exact .here | apply Take1.there)⟩) (i := 8) (hi := rfl) (hs := by kernel_rfl) (hfr := by kernel_rfl) (hr := by kernel_rfl) (hQ := np_) (hd := rfl); case hx => (first | exact Ex.loadB rfl rfl))
        refine GA.one (i := 5) (by kernel_rfl) rfl ?_
        first | refine G.call (hm1) rfl rfl rfl rfl (by repeat first | exact tn_ | apply td_ rfl | apply tc_ | exact .here | apply Take1.there) ?_ | refine G.callU (hm1) rfl rfl rfl (by repeat first | exact tn_ | apply td_ rfl | apply tc_ | exact .here | apply Take1.there) ?_
        rintro v_ give_ ⟨rfl, rfl⟩ rs_ hrs_
        simp only [List.cons_append, List.nil_append] at hrs_
        subst hrs_
        try refine G.nil ?_
        refine GA.back (by first | exact .inl (by decide) | exact .inr ⟨_, (by repeat first | exact tn_ | apply td_ rfl | apply tc_ | exact .here | apply Take1.there)⟩) ?_
        refine GA.one (i := 9) (by kernel_rfl) rfl ?_
        first | refine G.call (hm2) rfl rfl rfl rfl (by repeat first | exact tn_ | apply td_ rfl | apply tc_ | exact .here | apply Take1.there) ?_ | refine G.callU (hm2) rfl rfl rfl (by repeat first | exact tn_ | apply td_ rfl | apply tc_ | exact .here | apply Take1.there) ?_
        rintro v_ give_ ⟨rfl, rfl⟩ rs_ hrs_
        simp only [List.cons_append, List.nil_append] at hrs_
        subst hrs_
        try refine G.nil ?_
        refine GA.back (by first | exact .inl (by decide) | exact .inr ⟨_, (by repeat first | exact tn_ | apply td_ rfl | apply tc_ | exact .here | apply Take1.there)⟩) ?_
        first | (apply GA.take [] (hD := .inl rfl) (hsub := ⟨_, Takes.nil⟩) (i := 10) (hi := rfl) (hs := by kernel_rfl) (hfr := by kernel_rfl) (hr := by kernel_rfl) (hQ := np_) (hd := rfl); case hx => (first | exact Ex.build rfl rfl))
        refine GA.one (i := 11) (by kernel_rfl) rfl ?_
        refine G.lit rfl (by rfl) (by rfl) (by rfl) (by rfl) (by rfl) (by rfl) rfl (fun y1 => ?_)
        try refine G.nil ?_
        refine GA.back (by first | exact .inl (by decide) | exact .inr ⟨_, (by repeat first | exact tn_ | apply td_ rfl | apply tc_ | exact .here | apply Take1.there)⟩) ?_
        refine GA.one (i := 12) (by kernel_rfl) rfl ?_
        refine G.app rfl rfl (by rfl) (by omega) rfl (hcat) (fun a2 c2 rs_ hrs_ => ?_)
        try simp only at hrs_
        subst hrs_
        try refine G.nil ?_
        refine GA.back (by first | exact .inl (by decide) | exact .inr ⟨_, (by repeat first | exact tn_ | apply td_ rfl | apply tc_ | exact .here | apply Take1.there)⟩) ?_
        first | (apply GA.take [] (hD := .inl rfl) (hsub := ⟨_, Takes.nil⟩) (i := 13) (hi := rfl) (hs := by kernel_rfl) (hfr := by kernel_rfl) (hr := by kernel_rfl) (hQ := np_) (hd := rfl); case hx => (first | exact Ex.fieldB rfl))
        refine GA.one (i := 14) (by kernel_rfl) rfl ?_
        first | refine G.storeB rfl rfl rfl rfl rfl ?_
        try refine G.nil ?_
        refine GA.back (by first | exact .inl (by decide) | exact .inr ⟨_, (by repeat first | exact tn_ | apply td_ rfl | apply tc_ | exact .here | apply Take1.there)⟩) ?_
        refine GA.done (by kernel_rfl) ?_
        repeat (first | (apply G.ex (hd := rfl); case h => (first | exact Ex.move rfl | exact Ex.add rfl rfl (by omega))) | refine G.nil ?_ | refine GC.region ?_ | refine GE.then_normal ?_ | refine GE.block_normal ?_)
        refine GE.loop (i + 1, a2, c2) (by simp only; omega) (by simp only; omega) (by simp only [fits]; repeat (first | exact trivial | refine And.intro rfl ?_)) (by repeat first | exact tn_ | apply td_ rfl | apply tc_ | exact .here | apply Take1.there) (by repeat (first | exact Subs.refl | refine Subs.skip ?_))
      · have hin : i = s.sk.length := by omega
        subst hin
        rw [List.take_length]
        have hal := alF_all w.first w.se.done s.a s.sk
        by_cases hc : alF w.first w.se.done s.a s.sk s.sk.length = true
        · rw [if_neg (hal.1 hc), hc]
          have hdo := send.do_sp sb w.se k.se ⟨2, ⟨none, 0, 0, []⟩, pl w.first s.a w.se.done, s.w, ⟨ro, s.sk.length, rk, s.sk.map (plR w.first w.se.done)⟩⟩ ⟨by simp only; omega, rfl, by simp, by simp only; omega, by simp only; omega⟩ da dc mo mc
          rw [show send.toDe ⟨2, ⟨none, 0, 0, []⟩, pl w.first s.a w.se.done, s.w, ⟨ro, s.sk.length, rk, s.sk.map (plR w.first w.se.done)⟩⟩ = heardD w.first w.se.done s from rfl] at hdo
          obtain ⟨s1, t, hst⟩ : ∃ s1 t, send.doF w.se (heardD w.first w.se.done s) = (s1, t) := ⟨_, _, rfl⟩
          rw [hst] at hdo ⊢
          simp only at hdo ⊢
          refine GC.nilsl 1 ?_
          first | refine G.frz ro ?_ | refine GC.frz ro ?_ | refine GE.frz ro ?_
          repeat (first | (apply G.ex (hd := rfl); case h => (first | exact Ex.loadB rfl rfl | exact Ex.notB rfl)) | refine G.nil ?_ | refine GC.seq ?_ | refine GC.region ?_ | refine GC.skip ?_ | refine GC.exit ?_ | refine GE.then_normal ?_ | refine GE.then_exit ?_ | refine GE.block_hit ?_ | refine GC.cond_f rfl ?_)
          refine GC.drawA [] [.blk ub 51 [.pointer (some (badr wb 0))], .blk db 63 [.int .i64 2, .slice none 0 0, .int .i64 (pl w.first s.a w.se.done), .int .i64 s.w, .slice ro s.sk.length rk], .blk wb 60 [.int .i64 (w.first), .pointer (some (badr sb 0)), .pointer (some (badr hb 0)), .slice fo (FM).length fc]] (by repeat first | exact tn_ | apply td_ rfl | apply tc_ | exact .here | apply Take1.there) (by kernel_rfl) ?_
          first | (apply GA.take _ (hD := .inr ⟨rfl, by kernel_rfl⟩) (hsub := ⟨_, (by repeat first | exact tn_ | apply td_ rfl | apply tc_ | exact .here | apply Take1.there)⟩) (i := 0) (hi := rfl) (hs := by kernel_rfl) (hfr := by kernel_rfl) (hr := by kernel_rfl) (hQ := np_) (hd := rfl); case hx => (first | exact Ex.loadB rfl rfl))
          first | (apply GA.take [] (hD := .inl rfl) (hsub := ⟨_, Takes.nil⟩) (i := 1) (hi := rfl) (hs := by kernel_rfl) (hfr := by kernel_rfl) (hr := by kernel_rfl) (hQ := np_) (hd := rfl); case hx => (first | exact Ex.nilCheck rfl))
          first | (apply GA.take [] (hD := .inl rfl) (hsub := ⟨_, Takes.nil⟩) (i := 2) (hi := rfl) (hs := by kernel_rfl) (hfr := by kernel_rfl) (hr := by kernel_rfl) (hQ := np_) (hd := rfl); case hx => (first | exact Ex.fieldB rfl))
          first | (apply GA.take _ (hD := .inr ⟨rfl, by kernel_rfl⟩) (hsub := ⟨_, (by repeat first | exact tn_ | apply td_ rfl | apply tc_ | exact .here | apply Take1.there)⟩) (i := 3) (hi := rfl) (hs := by kernel_rfl) (hfr := by kernel_rfl) (hr := by kernel_rfl) (hQ := np_) (hd := rfl); case hx => (first | exact Ex.loadB rfl rfl))
          first | (apply GA.take _ (hD := .inr ⟨rfl, by kernel_rfl⟩) (hsub := ⟨_, (by repeat first | exact tn_ | apply td_ rfl | apply tc_ | exact .here | apply Take1.there)⟩) (i := 4) (hi := rfl) (hs := by kernel_rfl) (hfr := by kernel_rfl) (hr := by kernel_rfl) (hQ := np_) (hd := rfl); case hx => (first | exact Ex.loadBA rfl rfl rfl))
          refine GA.one (i := 5) (by kernel_rfl) rfl ?_
          first | refine G.call (caps := []) (hdo) rfl rfl rfl rfl (by repeat first | exact tn_ | apply td_ rfl | apply tc_ | exact .here | apply Take1.there) ?_ | refine G.callU (caps := []) (hdo) rfl rfl rfl (by repeat first | exact tn_ | apply td_ rfl | apply tc_ | exact .here | apply Take1.there) ?_
          rintro v_ give_ ⟨da1, dc1, mo1, mc1, zo, zc, rfl, rfl⟩ rs_ hrs_
          simp only [List.cons_append, List.nil_append] at hrs_
          subst hrs_
          try refine G.nil ?_
          refine GA.back (by first | exact .inl (by decide) | exact .inr ⟨_, (by repeat first | exact tn_ | apply td_ rfl | apply tc_ | exact .here | apply Take1.there)⟩) ?_
          first | (apply GA.take [] (hD := .inl rfl) (hsub := ⟨_, Takes.nil⟩) (i := 6) (hi := rfl) (hs := by kernel_rfl) (hfr := by kernel_rfl) (hr := by kernel_rfl) (hQ := np_) (hd := rfl); case hx => (first | exact Ex.field rfl rfl))
          refine GA.one (i := 7) (by kernel_rfl) rfl ?_
          first | refine G.call (caps := []) (no_sp t.code) rfl rfl rfl rfl (by repeat first | exact tn_ | apply td_ rfl | apply tc_ | exact .here | apply Take1.there) ?_ | refine G.callU (caps := []) (no_sp t.code) rfl rfl rfl (by repeat first | exact tn_ | apply td_ rfl | apply tc_ | exact .here | apply Take1.there) ?_
          rintro v_ give_ ⟨rfl, rfl⟩ rs_ hrs_
          simp only [List.cons_append, List.nil_append] at hrs_
          subst hrs_
          try refine G.nil ?_
          refine GA.back (by first | exact .inl (by decide) | exact .inr ⟨_, (by repeat first | exact tn_ | apply td_ rfl | apply tc_ | exact .here | apply Take1.there)⟩) ?_
          refine GA.one (i := 8) (by kernel_rfl) rfl ?_
          first | refine G.storeBA rfl rfl rfl rfl rfl ?_
          try refine G.nil ?_
          refine GA.back (by first | exact .inl (by decide) | exact .inr ⟨_, (by repeat first | exact tn_ | apply td_ rfl | apply tc_ | exact .here | apply Take1.there)⟩) ?_
          refine GA.done (by kernel_rfl) ?_
          repeat (first | refine GC.ret ?_ | refine GE.then_normal ?_)
          refine GE.conv (rs' := _) (fun w_ H_ => Holds.starIns (l := [.blk wb 60 [.int .i64 ((w).first), .pointer (some (badr sb 0)), .pointer (some (badr hb 0)), .slice fo (FM).length fc], .vec 92 3 fo (FM).length fc (flat eFr (FM)), .own (Star ((FM).map rFr)), .blk sb 79 [.slice da1 (s1).data.length dc1, .bool (s1).closed, .int .i64 (s1).done, .slice mo1 (s1).more.length mc1, .int .i64 (s1).next, .int .i64 (s1).again, .int .i64 (s1).edge], .vec 5 1 da1 (s1).data.length dc1 (flat eB (s1).data), .sl mo1 (s1).more.length mc1 2 (flat eR (s1).more), .blk hb 81 [.int .i64 ((w).he).room, .slice ea ((w).he).data.length ec, .int .i64 ((w).he).done, .slice no_ ((w).he).more.length nc, .int .i64 ((w).he).taken, .int .i64 ((w).he).end_], .vec 5 1 ea ((w).he).data.length ec (flat eB ((w).he).data), .sl no_ ((w).he).more.length nc 2 (flat eR ((w).he).more)]) (H_.take (need := [.blk wb 60 [.int .i64 ((w).first), .pointer (some (badr sb 0)), .pointer (some (badr hb 0)), .slice fo (FM).length fc], .vec 92 3 fo (FM).length fc (flat eFr (FM)), .own (Star ((FM).map rFr)), .blk sb 79 [.slice da1 (s1).data.length dc1, .bool (s1).closed, .int .i64 (s1).done, .slice mo1 (s1).more.length mc1, .int .i64 (s1).next, .int .i64 (s1).again, .int .i64 (s1).edge], .vec 5 1 da1 (s1).data.length dc1 (flat eB (s1).data), .sl mo1 (s1).more.length mc1 2 (flat eR (s1).more), .blk hb 81 [.int .i64 ((w).he).room, .slice ea ((w).he).data.length ec, .int .i64 ((w).he).done, .slice no_ ((w).he).more.length nc, .int .i64 ((w).he).taken, .int .i64 ((w).he).end_], .vec 5 1 ea ((w).he).data.length ec (flat eB ((w).he).data), .sl no_ ((w).he).more.length nc 2 (flat eR ((w).he).more)]) (by repeat first | exact tn_ | apply td_ rfl | apply tc_ | exact .here | apply Take1.there))) ?_
          try simp only [List.append_eq, List.nil_append, List.cons_append]
          refine GE.ret (by first | exact .inl rfl | exact .inr rfl) (resR1 Try.results40 (by first | exact RV.cell rfl (eP_len _) | exact RV.cell rfl rfl | exact RV.cell1 rfl)) ⟨⟨sb, hb, da1, dc1, mo1, mc1, ea, ec, no_, nc, fo, fc, FM⟩, ⟨hw.fs, hw.n, hw.b⟩, rfl, rfl, rfl⟩ (by repeat first | exact tn_ | apply td_ rfl | apply tc_ | exact .here | apply Take1.there) (by repeat (first | exact Subs.refl | refine Subs.skip ?_))
        · rw [if_pos (Classical.not_not.1 (fun h => hc (hal.2 h))), Bool.eq_false_iff.2 hc]
          repeat (first | (apply G.ex (hd := rfl); case h => (first | exact Ex.loadB rfl rfl | exact Ex.notB rfl)) | refine G.nil ?_ | refine GC.seq ?_ | refine GC.region ?_ | refine GC.exit ?_ | refine GE.then_normal ?_ | refine GE.then_exit ?_ | refine GE.block_hit ?_ | refine GC.cond_t rfl ?_)
          first | refine G.call (caps := []) (no_sp 2) rfl rfl rfl rfl (by repeat first | exact tn_ | apply td_ rfl | apply tc_ | exact .here | apply Take1.there) ?_ | refine G.callU (caps := []) (no_sp 2) rfl rfl rfl (by repeat first | exact tn_ | apply td_ rfl | apply tc_ | exact .here | apply Take1.there) ?_
          rintro v_ give_ ⟨rfl, rfl⟩ rs_ hrs_
          simp only [List.cons_append, List.nil_append] at hrs_
          subst hrs_
          repeat (first | refine G.storeBA rfl rfl rfl rfl rfl ?_ | refine G.nil ?_ | refine GC.ret ?_ | refine GE.then_normal ?_ | refine GE.then_ret ?_)
          refine GE.conv (rs' := _) (fun w_ H_ => Holds.starIns (l := [.blk wb 60 [.int .i64 ((w).first), .pointer (some (badr sb 0)), .pointer (some (badr hb 0)), .slice fo (FM).length fc], .vec 92 3 fo (FM).length fc (flat eFr (FM)), .own (Star ((FM).map rFr)), .blk sb 79 [.slice da ((w).se).data.length dc, .bool ((w).se).closed, .int .i64 ((w).se).done, .slice mo ((w).se).more.length mc, .int .i64 ((w).se).next, .int .i64 ((w).se).again, .int .i64 ((w).se).edge], .vec 5 1 da ((w).se).data.length dc (flat eB ((w).se).data), .sl mo ((w).se).more.length mc 2 (flat eR ((w).se).more), .blk hb 81 [.int .i64 ((w).he).room, .slice ea ((w).he).data.length ec, .int .i64 ((w).he).done, .slice no_ ((w).he).more.length nc, .int .i64 ((w).he).taken, .int .i64 ((w).he).end_], .vec 5 1 ea ((w).he).data.length ec (flat eB ((w).he).data), .sl no_ ((w).he).more.length nc 2 (flat eR ((w).he).more)]) (H_.take (need := [.blk wb 60 [.int .i64 ((w).first), .pointer (some (badr sb 0)), .pointer (some (badr hb 0)), .slice fo (FM).length fc], .vec 92 3 fo (FM).length fc (flat eFr (FM)), .own (Star ((FM).map rFr)), .blk sb 79 [.slice da ((w).se).data.length dc, .bool ((w).se).closed, .int .i64 ((w).se).done, .slice mo ((w).se).more.length mc, .int .i64 ((w).se).next, .int .i64 ((w).se).again, .int .i64 ((w).se).edge], .vec 5 1 da ((w).se).data.length dc (flat eB ((w).se).data), .sl mo ((w).se).more.length mc 2 (flat eR ((w).se).more), .blk hb 81 [.int .i64 ((w).he).room, .slice ea ((w).he).data.length ec, .int .i64 ((w).he).done, .slice no_ ((w).he).more.length nc, .int .i64 ((w).he).taken, .int .i64 ((w).he).end_], .vec 5 1 ea ((w).he).data.length ec (flat eB ((w).he).data), .sl no_ ((w).he).more.length nc 2 (flat eR ((w).he).more)]) (by repeat first | exact tn_ | apply td_ rfl | apply tc_ | exact .here | apply Take1.there))) ?_
          try simp only [List.append_eq, List.nil_append, List.cons_append]
          refine GE.ret (by first | exact .inl rfl | exact .inr rfl) (resR1 Try.results40 (by first | exact RV.cell rfl (eP_len _) | exact RV.cell rfl rfl | exact RV.cell1 rfl)) ⟨⟨sb, hb, da, dc, mo, mc, ea, ec, no_, nc, fo, fc, FM⟩, hw, rfl, rfl, rfl⟩ (by repeat first | exact tn_ | apply td_ rfl | apply tc_ | exact .here | apply Take1.there) (by repeat (first | exact Subs.refl | refine Subs.skip ?_))
  · rw [if_pos he]
    repeat (first | (apply G.ex (hd := rfl); case h => (first | exact Ex.move rfl)) | refine GC.seq ?_ | refine GC.region ?_ | refine GC.cond_yes rfl (by first | assumption | omega) ?_)
    first | refine G.call (caps := []) (no_sp e) rfl rfl rfl rfl (by repeat first | exact tn_ | apply td_ rfl | apply tc_ | exact .here | apply Take1.there) ?_ | refine G.callU (caps := []) (no_sp e) rfl rfl rfl (by repeat first | exact tn_ | apply td_ rfl | apply tc_ | exact .here | apply Take1.there) ?_
    rintro v_ give_ ⟨rfl, rfl⟩ rs_ hrs_
    simp only [List.cons_append, List.nil_append] at hrs_
    subst hrs_
    repeat (first | refine G.storeBA rfl rfl rfl rfl rfl ?_ | refine G.nil ?_ | refine GC.ret ?_ | refine GE.then_normal ?_ | refine GE.then_ret ?_)
    refine GE.conv (rs' := _) (fun w_ H_ => Holds.starIns (l := [.blk wb 60 [.int .i64 ((w).first), .pointer (some (badr sb 0)), .pointer (some (badr hb 0)), .slice fo (FM).length fc], .vec 92 3 fo (FM).length fc (flat eFr (FM)), .own (Star ((FM).map rFr)), .blk sb 79 [.slice da ((w).se).data.length dc, .bool ((w).se).closed, .int .i64 ((w).se).done, .slice mo ((w).se).more.length mc, .int .i64 ((w).se).next, .int .i64 ((w).se).again, .int .i64 ((w).se).edge], .vec 5 1 da ((w).se).data.length dc (flat eB ((w).se).data), .sl mo ((w).se).more.length mc 2 (flat eR ((w).se).more), .blk hb 81 [.int .i64 ((w).he).room, .slice ea ((w).he).data.length ec, .int .i64 ((w).he).done, .slice no_ ((w).he).more.length nc, .int .i64 ((w).he).taken, .int .i64 ((w).he).end_], .vec 5 1 ea ((w).he).data.length ec (flat eB ((w).he).data), .sl no_ ((w).he).more.length nc 2 (flat eR ((w).he).more)]) (H_.take (need := [.blk wb 60 [.int .i64 ((w).first), .pointer (some (badr sb 0)), .pointer (some (badr hb 0)), .slice fo (FM).length fc], .vec 92 3 fo (FM).length fc (flat eFr (FM)), .own (Star ((FM).map rFr)), .blk sb 79 [.slice da ((w).se).data.length dc, .bool ((w).se).closed, .int .i64 ((w).se).done, .slice mo ((w).se).more.length mc, .int .i64 ((w).se).next, .int .i64 ((w).se).again, .int .i64 ((w).se).edge], .vec 5 1 da ((w).se).data.length dc (flat eB ((w).se).data), .sl mo ((w).se).more.length mc 2 (flat eR ((w).se).more), .blk hb 81 [.int .i64 ((w).he).room, .slice ea ((w).he).data.length ec, .int .i64 ((w).he).done, .slice no_ ((w).he).more.length nc, .int .i64 ((w).he).taken, .int .i64 ((w).he).end_], .vec 5 1 ea ((w).he).data.length ec (flat eB ((w).he).data), .sl no_ ((w).he).more.length nc 2 (flat eR ((w).he).more)]) (by repeat first | exact tn_ | apply td_ rfl | apply tc_ | exact .here | apply Take1.there))) ?_
    try simp only [List.append_eq, List.nil_append, List.cons_append]
    refine GE.ret (by first | exact .inl rfl | exact .inr rfl) (resR1 Try.results40 (by first | exact RV.cell rfl (eP_len _) | exact RV.cell rfl rfl | exact RV.cell1 rfl)) ⟨⟨sb, hb, da, dc, mo, mc, ea, ec, no_, nc, fo, fc, FM⟩, hw, rfl, rfl, rfl⟩ (by repeat first | exact tn_ | apply td_ rfl | apply tc_ | exact .here | apply Take1.there) (by repeat (first | exact Subs.refl | refine Subs.skip ?_))
set_option maxHeartbeats 4000000 in
theorem back_sp (wb : Nat) (m : WM) (w : Wi) (N : Nat) (hw : MW m w) (k : WOk w N) (hN : N ≤ 30000) (id : Int) :
    Spec Try.prog 27 [.pointer (some (badr wb 0)), .int .i64 id] [.own (Star (wR wb m w))]
      fun v give => ∃ m', MW m' (backF w id).1 ∧ v = .agg (ePa ⟨(backF w id).2, none, 0⟩).toArray ∧ give = [.own (Star (wR wb m' (backF w id).1))] := by
  have k1 : WOk (heardF w id).1 (N + 0) := k.step (.back id) (by simp only [given]; omega) trivial
  have hhe := heard_sp wb m w N hw k id
  unfold backF
  obtain ⟨w1, p, hst⟩ : ∃ w1 p, heardF w id = (w1, p) := ⟨_, _, rfl⟩
  rw [hst] at hhe k1 ⊢
  simp only at hhe k1 ⊢
  obtain ⟨pc, pp, pid, pd, pf, pl_⟩ := p
  refine Spec.intro Try.func27 rfl Try.ntmps27 rfl fun w0 rest rs_ hrs_ => ?_
  simp only [List.cons_append, List.nil_append] at hrs_
  subst hrs_
  repeat (first | refine GC.seq ?_ | refine GC.region ?_)
  refine G.alloc rfl (fun rb => ?_)
  repeat (first | (apply G.ex (hd := rfl); case h => (first | exact Ex.move rfl)) | refine G.nil ?_ | refine GC.seq ?_ | refine GC.region ?_ | refine GE.then_normal ?_)
  first | refine G.call (caps := []) (hhe) rfl rfl rfl rfl (by repeat first | exact tn_ | apply td_ rfl | apply tc_ | exact .here | apply Take1.there) ?_ | refine G.callU (caps := []) (hhe) rfl rfl rfl (by repeat first | exact tn_ | apply td_ rfl | apply tc_ | exact .here | apply Take1.there) ?_
  rintro v_ give_ ⟨⟨sb, hb, da, dc, mo, mc, ea, ec, no_, nc, fo, fc, FM⟩, hw1, hl1, rfl, rfl⟩ rs_ hrs_
  simp only [List.cons_append, List.nil_append] at hrs_
  subst hrs_
  refine G.conv (rs' := _) (fun w_ H_ => Holds.starOuts (l := [.blk wb 60 [.int .i64 ((w1).first), .pointer (some (badr sb 0)), .pointer (some (badr hb 0)), .slice fo (FM).length fc], .vec 92 3 fo (FM).length fc (flat eFr (FM)), .own (Star ((FM).map rFr)), .blk sb 79 [.slice da ((w1).se).data.length dc, .bool ((w1).se).closed, .int .i64 ((w1).se).done, .slice mo ((w1).se).more.length mc, .int .i64 ((w1).se).next, .int .i64 ((w1).se).again, .int .i64 ((w1).se).edge], .vec 5 1 da ((w1).se).data.length dc (flat eB ((w1).se).data), .sl mo ((w1).se).more.length mc 2 (flat eR ((w1).se).more), .blk hb 81 [.int .i64 ((w1).he).room, .slice ea ((w1).he).data.length ec, .int .i64 ((w1).he).done, .slice no_ ((w1).he).more.length nc, .int .i64 ((w1).he).taken, .int .i64 ((w1).he).end_], .vec 5 1 ea ((w1).he).data.length ec (flat eB ((w1).he).data), .sl no_ ((w1).he).more.length nc 2 (flat eR ((w1).he).more)]) (H_.take (need := [.own (Star ([.blk wb 60 [.int .i64 ((w1).first), .pointer (some (badr sb 0)), .pointer (some (badr hb 0)), .slice fo (FM).length fc], .vec 92 3 fo (FM).length fc (flat eFr (FM)), .own (Star ((FM).map rFr)), .blk sb 79 [.slice da ((w1).se).data.length dc, .bool ((w1).se).closed, .int .i64 ((w1).se).done, .slice mo ((w1).se).more.length mc, .int .i64 ((w1).se).next, .int .i64 ((w1).se).again, .int .i64 ((w1).se).edge], .vec 5 1 da ((w1).se).data.length dc (flat eB ((w1).se).data), .sl mo ((w1).se).more.length mc 2 (flat eR ((w1).se).more), .blk hb 81 [.int .i64 ((w1).he).room, .slice ea ((w1).he).data.length ec, .int .i64 ((w1).he).done, .slice no_ ((w1).he).more.length nc, .int .i64 ((w1).he).taken, .int .i64 ((w1).he).end_], .vec 5 1 ea ((w1).he).data.length ec (flat eB ((w1).he).data), .sl no_ ((w1).he).more.length nc 2 (flat eR ((w1).he).more)]))]) (by repeat first | exact tn_ | apply td_ rfl | apply tc_ | exact .here | apply Take1.there))) ?_
  try simp only [List.append_eq, List.nil_append, List.cons_append]
  refine G.alloc rfl (fun tb => ?_)
  repeat (first | refine G.storeBA rfl rfl rfl rfl rfl ?_ | (apply G.ex (hd := rfl); case h => (first | exact Ex.move rfl | exact Ex.nilCheck rfl | exact Ex.fieldB rfl | exact Ex.loadB rfl rfl)) | refine G.nil ?_ | refine GC.seq ?_ | refine GC.region ?_ | refine GE.then_normal ?_)
  first | refine G.call (caps := []) (send.left_sp sb w1.se k1.se da dc mo mc) rfl rfl rfl rfl (by repeat first | exact tn_ | apply td_ rfl | apply tc_ | exact .here | apply Take1.there) ?_ | refine G.callU (caps := []) (send.left_sp sb w1.se k1.se da dc mo mc) rfl rfl rfl (by repeat first | exact tn_ | apply td_ rfl | apply tc_ | exact .here | apply Take1.there) ?_
  rintro v_ give_ ⟨rfl, rfl⟩ rs_ hrs_
  simp only [List.cons_append, List.nil_append] at hrs_
  subst hrs_
  repeat (first | refine G.storeB rfl rfl rfl rfl rfl ?_ | refine G.storeBA rfl rfl rfl rfl rfl ?_ | (apply G.ex (hd := rfl); case h => (first | exact Ex.fieldB rfl | exact Ex.loadBA rfl rfl rfl)) | refine G.nil ?_ | refine GC.seq ?_ | refine GC.region ?_ | refine GC.ret ?_ | refine GE.then_normal ?_)
  refine GE.conv (rs' := _) (fun w_ H_ => Holds.starIns (l := [.blk wb 60 [.int .i64 ((w1).first), .pointer (some (badr sb 0)), .pointer (some (badr hb 0)), .slice fo (FM).length fc], .vec 92 3 fo (FM).length fc (flat eFr (FM)), .own (Star ((FM).map rFr)), .blk sb 79 [.slice da ((w1).se).data.length dc, .bool ((w1).se).closed, .int .i64 ((w1).se).done, .slice mo ((w1).se).more.length mc, .int .i64 ((w1).se).next, .int .i64 ((w1).se).again, .int .i64 ((w1).se).edge], .vec 5 1 da ((w1).se).data.length dc (flat eB ((w1).se).data), .sl mo ((w1).se).more.length mc 2 (flat eR ((w1).se).more), .blk hb 81 [.int .i64 ((w1).he).room, .slice ea ((w1).he).data.length ec, .int .i64 ((w1).he).done, .slice no_ ((w1).he).more.length nc, .int .i64 ((w1).he).taken, .int .i64 ((w1).he).end_], .vec 5 1 ea ((w1).he).data.length ec (flat eB ((w1).he).data), .sl no_ ((w1).he).more.length nc 2 (flat eR ((w1).he).more)]) (H_.take (need := [.blk wb 60 [.int .i64 ((w1).first), .pointer (some (badr sb 0)), .pointer (some (badr hb 0)), .slice fo (FM).length fc], .vec 92 3 fo (FM).length fc (flat eFr (FM)), .own (Star ((FM).map rFr)), .blk sb 79 [.slice da ((w1).se).data.length dc, .bool ((w1).se).closed, .int .i64 ((w1).se).done, .slice mo ((w1).se).more.length mc, .int .i64 ((w1).se).next, .int .i64 ((w1).se).again, .int .i64 ((w1).se).edge], .vec 5 1 da ((w1).se).data.length dc (flat eB ((w1).se).data), .sl mo ((w1).se).more.length mc 2 (flat eR ((w1).se).more), .blk hb 81 [.int .i64 ((w1).he).room, .slice ea ((w1).he).data.length ec, .int .i64 ((w1).he).done, .slice no_ ((w1).he).more.length nc, .int .i64 ((w1).he).taken, .int .i64 ((w1).he).end_], .vec 5 1 ea ((w1).he).data.length ec (flat eB ((w1).he).data), .sl no_ ((w1).he).more.length nc 2 (flat eR ((w1).he).more)]) (by repeat first | exact tn_ | apply td_ rfl | apply tc_ | exact .here | apply Take1.there))) ?_
  try simp only [List.append_eq, List.nil_append, List.cons_append]
  refine GE.ret (by first | exact .inl rfl | exact .inr rfl) (resR1 Try.results27 (by first | exact RV.cell rfl (eP_len _) | exact RV.cell rfl rfl | exact RV.cell1 rfl)) ⟨⟨sb, hb, da, dc, mo, mc, ea, ec, no_, nc, fo, fc, FM⟩, hw1, rfl, rfl⟩ (by repeat first | exact tn_ | apply td_ rfl | apply tc_ | exact .here | apply Take1.there) (by repeat (first | exact Subs.refl | refine Subs.skip ?_))
end pipe
end Go.Proofs.Ytcllddkhnbnigaa
