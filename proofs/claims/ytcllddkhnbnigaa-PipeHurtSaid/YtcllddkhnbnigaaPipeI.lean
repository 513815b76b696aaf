/-
  CONTRACTS of passed and given, by the kit.
-/
import Derived.Test.YtcllddkhnbnigaaPipeH
namespace Go.Proofs.Ytcllddkhnbnigaa
open Go.RowKit
attribute [local irreducible] Ex G GC GE Gq FPost LPost
set_option linter.unusedVariables false
set_option linter.unusedSimpArgs false
namespace pipe
open hole
/-- the four hops that are always tried -/
def four (q : Option Addr) : List HoM := [⟨1, ⟨q, 2, 2, [7, 8]⟩, 0, 0, 0, 0⟩, ⟨3, ⟨none, 0, 0, []⟩, 0, 0, 0, 0⟩, ⟨5, ⟨none, 0, 0, []⟩, 0, 0, 0, 0⟩, ⟨8, ⟨none, 0, 0, []⟩, 0, 0, 0, 5⟩]
theorem four_run : (runs (newW 65535 9) [.give [7, 8], .send, .carry 0, .drain 5]).map (fun p => (p.put, p.data)) = [(false, []), (true, []), (true, []), (true, [7, 8])] := by decide +kernel
theorem four_ok (q : Option Addr) : LOk (four q) := by
  refine ⟨fun h hh => ?_, fun h hh => ?_, by show (2 : Nat) ≤ 30000; omega, by show (4 : Nat) ≤ 300; omega⟩
  · unfold four at hh
    simp only [List.mem_cons, List.not_mem_nil, or_false] at hh
    rcases hh with rfl | rfl | rfl | rfl <;> exact ⟨by simp only; omega, rfl, by simp only; omega⟩
  · unfold four at hh
    simp only [List.mem_cons, List.not_mem_nil, or_false] at hh
    rcases hh with rfl | rfl | rfl | rfl
    · exact trivial
    · exact trivial
    · exact trivial
    · exact ⟨by show (0 : Int) ≤ 5; omega, by show (5 : Int) ≤ 4096; omega⟩
theorem four_said {T : List PaM} {q : Option Addr} (h : T.map (·.p) = runs (newW 65535 9) ((four q).map toHo)) : (T.getD 1 default).p.put = true ∧ (T.getD 3 default).p.data = [7, 8] ∧ T.length = 4 := by
  have h2 := four_run
  rw [show [Ho.give [7, 8], .send, .carry 0, .drain 5] = (four q).map toHo from rfl, ← h, List.map_map] at h2
  match T, h2 with
  | [a, b, c, d], h2 =>
    simp only [List.map_cons, List.map_nil, Function.comp, List.cons.injEq, Prod.mk.injEq, and_true] at h2
    obtain ⟨_, ⟨h3, _⟩, _, _, h4⟩ := h2
    exact ⟨h3, h4, rfl⟩
  | [], h2 => simp at h2
  | [_], h2 => simp at h2
  | [_, _], h2 => simp at h2
  | [_, _, _], h2 => simp at h2
  | _ :: _ :: _ :: _ :: _ :: _, h2 => simp at h2
set_option maxHeartbeats 8000000 in
theorem passed_sp (first room : Int) (hf : 0 ≤ first ∧ first < 65536) (hr : 1 ≤ room ∧ room ≤ 4096) (r : Res) (ao : Option Addr) (n c : Nat) (L : List HoM) (hl : L.length = n) [hR : RdR r ao n c 6 (flat eHo L)] (hL : LOk L) :
    Spec Try.prog 9 [.agg #[.int .i64 first, .int .i64 room], .slice ao n c] [r, .per (Rd eB 1 (L.map (·.d)))] fun v give => ∃ (T : List PaM) (o : Option Addr) (oc : Nat), T.map (·.p) = runs (newW first room) (L.map toHo) ∧ T.length = n ∧ v = .tuple #[.slice o n oc, .bool true] ∧ give = [.vec 39 6 o n oc (flat ePa T), .per (Rd eB 1 (T.map yF)), r, .per (Rd eB 1 (L.map (·.d)))] := by
  have hLn := hL.n
  refine Spec.intro Try.func9 rfl Try.ntmps9 rfl fun w0 rest rs_ hrs_ => ?_
  simp only [List.cons_append, List.nil_append] at hrs_
  subst hrs_
  repeat (first | refine GC.seq ?_ | refine GC.region ?_)
  refine G.box rfl rfl rfl (fun lb => ?_)
  rw [show (Value.agg #[.int .i64 first, .int .i64 room]).cells.toList = [.int .i64 first, .int .i64 room] from rfl]
  repeat (first | (apply G.ex (hd := rfl); case h => (first | exact Ex.assign rfl)) | refine G.nil ?_ | refine GC.seq ?_ | refine GE.then_normal ?_)
  refine GC.drawA [] [.blk lb 29 [.int .i64 first, .int .i64 room]] (by repeat first | exact tn_ | apply td_ rfl | apply tc_ | exact .here | apply Take1.there) (by kernel_rfl) ?_
  first | (apply GA.take _ (hD := .inr ⟨rfl, by kernel_rfl⟩) (hsub := ⟨_, (by repeat first | exact tn_ | apply td_ rfl | apply tc_ | exact .here | apply Take1.there)⟩) (i := 0) (hi := rfl) (hs := by kernel_rfl) (hfr := by kernel_rfl) (hr := by kernel_rfl) (hQ := np_) (hd := rfl); case hx => (first | exact Ex.loadBA rfl rfl rfl))
  first | (apply GA.take [] (hD := .inl rfl) (hsub := ⟨_, Takes.nil⟩) (i := 1) (hi := rfl) (hs := by kernel_rfl) (hfr := by kernel_rfl) (hr := by kernel_rfl) (hQ := np_) (hd := rfl); case hx => (first | exact Ex.move rfl))
  refine GA.one (i := 2) (by kernel_rfl) rfl ?_
  refine G.appNil rfl rfl (by rfl) (by omega) rfl (rfl) (fun a2 c2 => ?_)
  try refine G.nil ?_
  refine GA.back (by first | exact .inl (by decide) | exact .inr ⟨_, (by repeat first | exact tn_ | apply td_ rfl | apply tc_ | exact .here | apply Take1.there)⟩) ?_
  refine GA.one (i := 3) (by kernel_rfl) rfl ?_
  first | refine G.call (caps := []) (play_sp first room hf hr (.vec 36 6 a2 n c2 (flat eHo L)) a2 n c2 L hl hL) rfl rfl rfl rfl (by repeat first | exact tn_ | apply td_ rfl | apply tc_ | exact .here | apply Take1.there) ?_ | refine G.callU (caps := []) (play_sp first room hf hr (.vec 36 6 a2 n c2 (flat eHo L)) a2 n c2 L hl hL) rfl rfl rfl (by repeat first | exact tn_ | apply td_ rfl | apply tc_ | exact .here | apply Take1.there) ?_
  rintro v_ give_ ⟨T, o, oc, hT, hTl, rfl, rfl⟩ rs_ hrs_
  simp only [List.cons_append, List.nil_append] at hrs_
  subst hrs_
  try refine G.nil ?_
  refine GA.back (by first | exact .inl (by decide) | exact .inr ⟨_, (by repeat first | exact tn_ | apply td_ rfl | apply tc_ | exact .here | apply Take1.there)⟩) ?_
  first | (apply GA.take [] (hD := .inl rfl) (hsub := ⟨_, Takes.nil⟩) (i := 4) (hi := rfl) (hs := by kernel_rfl) (hfr := by kernel_rfl) (hr := by kernel_rfl) (hQ := np_) (hd := rfl); case hx => (first | exact Ex.move rfl))
  first | (apply GA.take [] (hD := .inl rfl) (hsub := ⟨_, Takes.nil⟩) (i := 5) (hi := rfl) (hs := by kernel_rfl) (hfr := by kernel_rfl) (hr := by kernel_rfl) (hQ := np_) (hd := rfl); case hx => (first | exact Ex.extract rfl rfl))
  first | (apply GA.take [] (hD := .inl rfl) (hsub := ⟨_, Takes.nil⟩) (i := 6) (hi := rfl) (hs := by kernel_rfl) (hfr := by kernel_rfl) (hr := by kernel_rfl) (hQ := np_) (hd := rfl); case hx => (first | exact Ex.extract rfl rfl))
  first | (apply GA.take [] (hD := .inl rfl) (hsub := ⟨_, Takes.nil⟩) (i := 7) (hi := rfl) (hs := by kernel_rfl) (hfr := by kernel_rfl) (hr := by kernel_rfl) (hQ := np_) (hd := rfl); case hx => (first | exact Ex.assign rfl))
  first | (apply GA.take [] (hD := .inl rfl) (hsub := ⟨_, Takes.nil⟩) (i := 8) (hi := rfl) (hs := by kernel_rfl) (hfr := by kernel_rfl) (hr := by kernel_rfl) (hQ := np_) (hd := rfl); case hx => (first | exact Ex.assign rfl))
  refine GA.done (by kernel_rfl) ?_
  repeat (first | (apply G.ex (hd := rfl); case h => (first | exact Ex.build rfl rfl)) | refine GC.seq ?_ | refine GC.region ?_ | refine GE.then_normal ?_)
  refine G.lit rfl (by rfl) (by rfl) (by rfl) (by rfl) (by rfl) (by rfl) rfl (fun q => ?_)
  first | refine G.frz q ?_ | refine GC.frz q ?_ | refine GE.frz q ?_
  refine G.nilsl 1 ?_
  refine G.conv (fun w_ H_ => Holds.rdNil eB 1 H_) ?_
  refine G.conv (fun w_ H_ => Holds.rdSnoc (x := ⟨q, 2, 2, [7, 8]⟩) (H_.take (need := [.sl q 2 2 1 (flat eB [7, 8]), .per (Rd eB 1 ([] : List (SlD UInt8)))]) (by repeat first | exact tn_ | apply td_ rfl | apply tc_ | exact .here | apply Take1.there))) ?_
  try simp only [List.append_eq, List.nil_append, List.cons_append]
  refine G.conv (fun w_ H_ => Holds.rdSnoc (x := ⟨none, 0, 0, []⟩) (H_.take (need := [.sl none 0 0 1 [], .per (Rd eB 1 [⟨q, 2, 2, [7, 8]⟩])]) (by repeat first | exact tn_ | apply td_ rfl | apply tc_ | exact .here | apply Take1.there))) ?_
  try simp only [List.append_eq, List.nil_append, List.cons_append]
  refine G.nilsl 1 ?_
  refine G.conv (fun w_ H_ => Holds.rdSnoc (x := ⟨none, 0, 0, []⟩) (H_.take (need := [.sl none 0 0 1 [], .per (Rd eB 1 [⟨q, 2, 2, [7, 8]⟩, ⟨none, 0, 0, []⟩])]) (by repeat first | exact tn_ | apply td_ rfl | apply tc_ | exact .here | apply Take1.there))) ?_
  try simp only [List.append_eq, List.nil_append, List.cons_append]
  refine G.nilsl 1 ?_
  refine G.conv (fun w_ H_ => Holds.rdSnoc (x := ⟨none, 0, 0, []⟩) (H_.take (need := [.sl none 0 0 1 [], .per (Rd eB 1 [⟨q, 2, 2, [7, 8]⟩, ⟨none, 0, 0, []⟩, ⟨none, 0, 0, []⟩])]) (by repeat first | exact tn_ | apply td_ rfl | apply tc_ | exact .here | apply Take1.there))) ?_
  try simp only [List.append_eq, List.nil_append, List.cons_append]
  repeat (first | (apply G.ex (hd := rfl); case h => (first | exact Ex.build rfl rfl)))
  refine G.lit (size := 6) (len := 4) (zs := [.int .i64 0, .slice none 0 0, .int .i64 0, .int .i64 0, .int .u8 0, .int .i64 0]) (vals := [(0, .agg (eHo ⟨1, ⟨q, 2, 2, [7, 8]⟩, 0, 0, 0, 0⟩).toArray), (1, .agg (eHo ⟨3, ⟨none, 0, 0, []⟩, 0, 0, 0, 0⟩).toArray), (2, .agg (eHo ⟨5, ⟨none, 0, 0, []⟩, 0, 0, 0, 0⟩).toArray), (3, .agg (eHo ⟨8, ⟨none, 0, 0, []⟩, 0, 0, 0, 5⟩).toArray)]) (cells := flat eHo (four q)) rfl (by kernel_rfl) rfl (by rfl) (by rfl) (by rfl) (by kernel_rfl) rfl (fun q2 => ?_)
  first | refine G.call (caps := []) (play_sp 65535 9 (by omega) (by omega) (.vec 36 6 q2 4 4 (flat eHo (four q))) q2 4 4 (four q) rfl (four_ok q)) rfl rfl rfl rfl (by repeat first | exact tn_ | apply td_ rfl | apply tc_ | exact .here | apply Take1.there) ?_ | refine G.callU (caps := []) (play_sp 65535 9 (by omega) (by omega) (.vec 36 6 q2 4 4 (flat eHo (four q))) q2 4 4 (four q) rfl (four_ok q)) rfl rfl rfl (by repeat first | exact tn_ | apply td_ rfl | apply tc_ | exact .here | apply Take1.there) ?_
  rintro v_ give_ ⟨T2, o2, oc2, hT2, hTl2, rfl, rfl⟩ rs_ hrs_
  simp only [List.cons_append, List.nil_append] at hrs_
  subst hrs_
  obtain ⟨f1, f2, f3⟩ := four_said hT2
  have hd3 : (T2.map yF).getD 3 default = yF (T2.getD 3 default) := by
    rw [List.getD_eq_getElem?_getD, List.getElem?_map, List.getD_eq_getElem?_getD, List.getElem?_eq_getElem (show 3 < T2.length by omega)]; rfl
  refine G.conv (fun w_ H_ => H_.rdAt (l := T2.map yF) (enc := eB) (s := 1) (by simp) 3 (by rw [List.length_map]; omega)) ?_
  have hy3 : yF (T2.getD 3 default) = ⟨(T2.getD 3 default).xo, 2, (T2.getD 3 default).xc, [7, 8]⟩ := by unfold yF; rw [f2]; rfl
  rw [hd3, hy3]
  have hT24 : 4 = T2.length := f3.symm
  repeat (first | (apply G.ex (hd := rfl); case h => (first | exact Ex.move rfl | exact Ex.fieldE rfl | exact Ex.eqI rfl rfl | exact Ex.lenSl rfl | exact Ex.indexN rfl rfl (by first | omega | (simp; done) | (simp; omega)) | exact Ex.loadT rfl (by first | omega | (simp; done) | (simp; omega)) rfl | exact Ex.extract rfl rfl | exact Ex.assign rfl | exact Ex.pickT rfl (by first | assumption | omega) rfl)) | refine G.g_tt rfl rfl (by first | assumption | omega) ?_ | refine G.nil ?_ | refine GC.seq ?_ | refine GC.region ?_ | refine GE.then_normal ?_)
  rw [f1]
  repeat (first | (apply G.ex (hd := rfl); case h => (first | exact Ex.move rfl | exact Ex.fieldE rfl | exact Ex.indexN rfl rfl (by first | omega | (simp; done) | (simp; omega)) | exact Ex.loadT rfl (by first | omega | (simp; done) | (simp; omega)) rfl)) | refine G.yes rfl rfl ?_)
  refine G.lit rfl (by rfl) (by rfl) (by rfl) (by rfl) (by rfl) (by rfl) rfl (fun q5 => ?_)
  repeat (first | refine G.yes rfl rfl ?_)
  rw [f2]
  first | refine G.call (caps := []) (sameBytes_sp (.sl (T2.getD 3 default).xo 2 (T2.getD 3 default).xc 1 (flat eB [7, 8])) (.vec 5 1 q5 2 2 (flat eB [7, 8])) (T2.getD 3 default).xo q5 2 (T2.getD 3 default).xc 2 2 [7, 8] [7, 8] rfl rfl (by omega) (by omega)) rfl rfl rfl rfl (by repeat first | exact tn_ | apply td_ rfl | apply tc_ | exact .here | apply Take1.there) ?_ | refine G.callU (caps := []) (sameBytes_sp (.sl (T2.getD 3 default).xo 2 (T2.getD 3 default).xc 1 (flat eB [7, 8])) (.vec 5 1 q5 2 2 (flat eB [7, 8])) (T2.getD 3 default).xo q5 2 (T2.getD 3 default).xc 2 2 [7, 8] [7, 8] rfl rfl (by omega) (by omega)) rfl rfl rfl (by repeat first | exact tn_ | apply td_ rfl | apply tc_ | exact .here | apply Take1.there) ?_
  rintro v_ give_ ⟨rfl, rfl⟩ rs_ hrs_
  simp only [List.cons_append, List.nil_append] at hrs_
  subst hrs_
  rw [decide_eq_true rfl]
  repeat (first | (apply G.ex (hd := rfl); case h => (first | exact Ex.assign rfl | exact Ex.pickLT rfl rfl)) | refine G.nil ?_ | refine GC.ret ?_ | refine GE.then_normal ?_)
  refine GE.ret (by first | exact .inl rfl | exact .inr rfl) (res2 Try.results9 rfl rfl) ⟨T, o, oc, hT, hTl, rfl, rfl⟩ (by repeat first | exact tn_ | apply td_ rfl | apply tc_ | exact .here | apply Take1.there) (by repeat (first | exact Subs.refl | refine Subs.skip ?_))
/-- what was given, and what was drained, by the first k hops -/
def givenIn (H : List HoM) (T : List PaM) : Nat → List UInt8
  | 0 => []
  | k + 1 => if (H.getD k default).kind = 1 ∧ (T.getD k default).p.code = 0 then givenIn H T k ++ (H.getD k default).d.l else givenIn H T k
def givenOut (H : List HoM) (T : List PaM) : Nat → List UInt8
  | 0 => []
  | k + 1 => if (H.getD k default).kind = 8 then givenOut H T k ++ (T.getD k default).p.data else givenOut H T k
end pipe
end Go.Proofs.Ytcllddkhnbnigaa
