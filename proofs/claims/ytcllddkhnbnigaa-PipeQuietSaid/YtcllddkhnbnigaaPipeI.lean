/-
  CONTRACTS of passed and given, by the kit.
-/
import Derived.Test.YtcllddkhnbnigaaPipeH
namespace Go.Proofs.Ytcllddkhnbnigaa
open Go.RowKit
attribute [local irreducible] Ex G GC GE Gq FPost LPost
set_option linter.unusedVariables false
set_option linter.unusedSimpArgs false
namespace pipe
open hole
/-- the four hops that are always tried -/
def four (q : Option Addr) : List HoM := [⟨1, ⟨q, 2, 2, [7, 8]⟩, 0, 0, 0, 0⟩, ⟨3, ⟨none, 0, 0, []⟩, 0, 0, 0, 0⟩, ⟨5, ⟨none, 0, 0, []⟩, 0, 0, 0, 0⟩, ⟨8, ⟨none, 0, 0, []⟩, 0, 0, 0, 5⟩]
theorem four_run : (runs (newW 65535 9) [.give [7, 8], .send, .carry 0, .drain 5]).map (fun p => (p.put, p.data)) = [(false, []), (true, []), (true, []), (true, [7, 8])] := by decide +kernel
theorem four_ok (q : Option Addr) : LOk (four q) := by
  refine ⟨fun h hh => ?_, fun h hh => ?_, by show (2 : Nat) ≤ 30000; omega, by show (4 : Nat) ≤ 300; omega⟩
  · unfold four at hh
    simp only [List.mem_cons, List.not_mem_nil, or_false] at hh
    rcases hh with rfl | rfl | rfl | rfl <;> exact ⟨by simp only; omega, rfl, by simp only; omega⟩
  · unfold four at hh
    simp only [List.mem_cons, List.not_mem_nil, or_false] at hh
    rcases hh with rfl | rfl | rfl | rfl
    · exact trivial
    · exact trivial
    · exact trivial
    · exact ⟨by show (0 : Int) ≤ 5; omega, by show (5 : Int) ≤ 4096; omega⟩
theorem four_said {T : List PaM} {q : Option Addr} (h : T.map (·.p) = runs (newW 65535 9) ((four q).map toHo)) : (T.getD 1 default).p.put = true ∧ (T.getD 3 default).p.data = [7, 8] ∧ T.length = 4 := by
  have h2 := four_run
  rw [show [Ho.give [7, 8], .send, .carry 0, .drain 5] = (four q).map toHo from rfl, ← h, List.map_map] at h2
  match T, h2 with
  | [a, b, c, d], h2 =>
    simp only [List.map_cons, List.map_nil, Function.comp, List.cons.injEq, Prod.mk.injEq, and_true] at h2
    obtain ⟨_, ⟨h3, _⟩, _, _, h4⟩ := h2
    exact ⟨h3, h4, rfl⟩
  | [], h2 => simp at h2
  | [_], h2 => simp at h2
  | [_, _], h2 => simp at h2
  | [_, _, _], h2 => simp at h2
  | _ :: _ :: _ :: _ :: _ :: _, h2 => simp at h2
set_option maxHeartbeats 8000000 in
theorem passed_sp (first room : Int) (hf : 0 ≤ first ∧ first < 65536) (hr : 1 ≤ room ∧ room ≤ 4096) (r : Res) (ao : Option Addr) (n c : Nat) (L : List HoM) (hl : L.length = n) [hR : RdR r ao n c 6 (flat eHo L)] (hL : LOk L) :
    Spec Try.prog 9 [.agg #[.int .i64 first, .int .i64 room], .slice ao n c] [r, .per (Rd eB 1 (L.map (·.d)))] fun v give => ∃ (T : List PaM) (o : Option Addr) (oc : Nat), T.map (·.p) = runs (newW first room) (L.map toHo) ∧ T.length = n ∧ v = .tuple #[.slice o n oc, .bool true] ∧ give = [.vec 39 6 o n oc (flat ePa T), .per (Rd eB 1 (T.map yF)), r, .per (Rd eB 1 (L.map (·.d)))] := by
  have hLn := hL.n
  refine Spec.intro Try.func9 rfl Try.ntmps9 rfl fun w0 rest rs_ hrs_ => ?_
  simp only [List.cons_append, List.nil_append] at hrs_
  subst hrs_
  repeat (first | refine GC.seq ?_ | refine GC.region ?_)
  refine G.box rfl rfl rfl (fun lb => ?_)
  rw [show (Value.agg #[.int .i64 first, .int .i64 room]).cells.toList = [.int .i64 first, .int .i64 room] from rfl]
  repeat (first | (apply G.ex (hd := rfl); case h => (first | exact Ex.assign rfl)) | refine G.nil ?_ | refine GC.seq ?_ | refine GE.then_normal ?_)
  refine GC.drawA [] [.blk lb 29 [.int .i64 first, .int .i64 room]] (by repeat (first | exact Takes.nil | apply Takes.dup rfl | apply Takes.cons | exact Take1.here | apply Take1.there)) (by kernel_rfl) ?_
  first | (apply GA.take _ (hD := .inr ⟨rfl, by kernel_rfl⟩) (hsub := ⟨_, (by repeat (first | exact Takes.nil | apply Takes.dup rfl | apply Takes.cons | exact Take1.here | apply Take1.there))⟩) (i := 0) (hi := rfl) (hs := by kernel_rfl) (hfr := by kernel_rfl) (hr := by kernel_rfl) (hQ := np_) (hd := rfl); case hx => (first | exact Ex.loadBA rfl rfl rfl))
  first | (apply GA.take [] (hD := .inl rfl) (hsub := ⟨_, Takes.nil⟩) (i := 1) (hi := rfl) (hs := by kernel_rfl) (hfr := by kernel_rfl) (hr := by kernel_rfl) (hQ := np_) (hd := rfl); case hx => (first | exact Ex.move rfl))
  refine GA.one (i := 2) (by kernel_rfl) rfl ?_
  refine G.appNil rfl rfl (by rfl) (by omega) rfl (rfl) (fun a2 c2 => ?_)
  try refine G.nil ?_
  refine GA.back (by first | exact .inl (by decide) | exact .inr ⟨_, (by repeat (first | exact Takes.nil | apply Takes.dup rfl | apply Takes.cons | exact Take1.here | apply Take1.there))⟩) ?_
  refine GA.one (i := 3) (by kernel_rfl) rfl ?_
  first | refine G.call (caps := []) (play_sp first room hf hr (.vec 36 6 a2 n c2 (flat eHo L)) a2 n c2 L hl hL) rfl rfl rfl rfl (by repeat (first | exact Takes.nil | apply Takes.dup rfl | apply Takes.cons | exact Take1.here | apply Take1.there)) ?_ | refine G.callU (caps := []) (play_sp first room hf hr (.vec 36 6 a2 n c2 (flat eHo L)) a2 n c2 L hl hL) rfl rfl rfl (by repeat (first | exact Takes.nil | apply Takes.dup rfl | apply Takes.cons | exact Take1.here | apply Take1.there)) ?_
  rintro v_ give_ ⟨T, o, oc, hT, hTl, rfl, rfl⟩ rs_ hrs_
  simp only [List.cons_append, List.nil_append] at hrs_
  subst hrs_
  try refine G.nil ?_
  refine GA.back (by first | exact .inl (by decide) | exact .inr ⟨_, (by repeat (first | exact Takes.nil | apply Takes.dup rfl | apply Takes.cons | exact Take1.here | apply Take1.there))⟩) ?_
  first | (apply GA.take [] (hD := .inl rfl) (hsub := ⟨_, Takes.nil⟩) (i := 4) (hi := rfl) (hs := by kernel_rfl) (hfr := by kernel_rfl) (hr := by kernel_rfl) (hQ := np_) (hd := rfl); case hx => (first | exact Ex.move rfl))
  first | (apply GA.take [] (hD := .inl rfl) (hsub := ⟨_, Takes.nil⟩) (i := 5) (hi := rfl) (hs := by kernel_rfl) (hfr := by kernel_rfl) (hr := by kernel_rfl) (hQ := np_) (hd := rfl); case hx => (first | exact Ex.extract rfl rfl))
  first | (apply GA.take [] (hD := .inl rfl) (hsub := ⟨_, Takes.nil⟩) (i := 6) (hi := rfl) (hs := by kernel_rfl) (hfr := by kernel_rfl) (hr := by kernel_rfl) (hQ := np_) (hd := rfl); case hx => (first | exact Ex.extract rfl rfl))
  first | (apply GA.take [] (hD := .inl rfl) (hsub := ⟨_, Takes.nil⟩) (i := 7) (hi := rfl) (hs := by kernel_rfl) (hfr := by kernel_rfl) (hr := by kernel_rfl) (hQ := np_) (hd := rfl); case hx => (first | exact Ex.assign rfl))
  first | (apply GA.take [] (hD := .inl rfl) (hsub := ⟨_, Takes.nil⟩) (i := 8) (hi := rfl) (hs := by kernel_rfl) (hfr := by kernel_rfl) (hr := by kernel_rfl) (hQ := np_) (hd := rfl); case hx => (first | exact Ex.assign rfl))
  refine GA.done (by kernel_rfl) ?_
  repeat (first | (apply G.ex (hd := rfl); case h => (first | exact Ex.build rfl rfl)) | refine GC.seq ?_ | refine GC.region ?_ | refine GE.then_normal ?_)
  refine G.lit rfl (by rfl) (by rfl) (by rfl) (by rfl) (by rfl) (by rfl) rfl (fun q => ?_)
  first | refine G.frz q ?_ | refine GC.frz q ?_ | refine GE.frz q ?_
  refine G.nilsl 1 ?_
  refine G.conv (fun w_ H_ => Holds.rdNil eB 1 H_) ?_
  refine G.conv (fun w_ H_ => Holds.rdSnoc (x := ⟨q, 2, 2, [7, 8]⟩) (H_.take (need := [.sl q 2 2 1 (flat eB [7, 8]), .per (Rd eB 1 ([] : List (SlD UInt8)))]) (by repeat (first | exact Takes.nil | apply Takes.dup rfl | apply Takes.cons | exact Take1.here | apply Take1.there)))) ?_
  try simp only [List.append_eq, List.nil_append, List.cons_append]
  refine G.conv (fun w_ H_ => Holds.rdSnoc (x := ⟨none, 0, 0, []⟩) (H_.take (need := [.sl none 0 0 1 [], .per (Rd eB 1 [⟨q, 2, 2, [7, 8]⟩])]) (by repeat (first | exact Takes.nil | apply Takes.dup rfl | apply Takes.cons | exact Take1.here | apply Take1.there)))) ?_
  try simp only [List.append_eq, List.nil_append, List.cons_append]
  refine G.nilsl 1 ?_
  refine G.conv (fun w_ H_ => Holds.rdSnoc (x := ⟨none, 0, 0, []⟩) (H_.take (need := [.sl none 0 0 1 [], .per (Rd eB 1 [⟨q, 2, 2, [7, 8]⟩, ⟨none, 0, 0, []⟩])]) (by repeat (first | exact Takes.nil | apply Takes.dup rfl | apply Takes.cons | exact Take1.here | apply Take1.there)))) ?_
  try simp only [List.append_eq, List.nil_append, List.cons_append]
  refine G.nilsl 1 ?_
  refine G.conv (fun w_ H_ => Holds.rdSnoc (x := ⟨none, 0, 0, []⟩) (H_.take (need := [.sl none 0 0 1 [], .per (Rd eB 1 [⟨q, 2, 2, [7, 8]⟩, ⟨none, 0, 0, []⟩, ⟨none, 0, 0, []⟩])]) (by repeat (first | exact Takes.nil | apply Takes.dup rfl | apply Takes.cons | exact Take1.here | apply Take1.there)))) ?_
  try simp only [List.append_eq, List.nil_append, List.cons_append]
  repeat (first | (apply G.ex (hd := rfl); case h => (first | exact Ex.build rfl rfl)))
  refine G.lit (size := 6) (len := 4) (zs := [.int .i64 0, .slice none 0 0, .int .i64 0, .int .i64 0, .int .u8 0, .int .i64 0]) (vals := [(0, .agg (eHo ⟨1, ⟨q, 2, 2, [7, 8]⟩, 0, 0, 0, 0⟩).toArray), (1, .agg (eHo ⟨3, ⟨none, 0, 0, []⟩, 0, 0, 0, 0⟩).toArray), (2, .agg (eHo ⟨5, ⟨none, 0, 0, []⟩, 0, 0, 0, 0⟩).toArray), (3, .agg (eHo ⟨8, ⟨none, 0, 0, []⟩, 0, 0, 0, 5⟩).toArray)]) (cells := flat eHo (four q)) rfl (by kernel_rfl) rfl (by rfl) (by rfl) (by rfl) (by kernel_rfl) rfl (fun q2 => ?_)
  first | refine G.call (caps := []) (play_sp 65535 9 (by omega) (by omega) (.vec 36 6 q2 4 4 (flat eHo (four q))) q2 4 4 (four q) rfl (four_ok q)) rfl rfl rfl rfl (by repeat (first | exact Takes.nil | apply Takes.dup rfl | apply Takes.cons | exact Take1.here | apply Take1.there)) ?_ | refine G.callU (caps := []) (play_sp 65535 9 (by omega) (by omega) (.vec 36 6 q2 4 4 (flat eHo (four q))) q2 4 4 (four q) rfl (four_ok q)) rfl rfl rfl (by repeat (first | exact Takes.nil | apply Takes.dup rfl | apply Takes.cons | exact Take1.here | apply Take1.there)) ?_
  rintro v_ give_ ⟨T2, o2, oc2, hT2, hTl2, rfl, rfl⟩ rs_ hrs_
  simp only [List.cons_append, List.nil_append] at hrs_
  subst hrs_
  obtain ⟨f1, f2, f3⟩ := four_said hT2
  have hd3 : (T2.map yF).getD 3 default = yF (T2.getD 3 default) := by
    rw [List.getD_eq_getElem?_getD, List.getElem?_map, List.getD_eq_getElem?_getD, List.getElem?_eq_getElem (show 3 < T2.length by omega)]; rfl
  refine G.conv (fun w_ H_ => H_.rdAt (l := T2.map yF) (enc := eB) (s := 1) (by simp) 3 (by rw [List.length_map]; omega)) ?_
  have hy3 : yF (T2.getD 3 default) = ⟨(T2.getD 3 default).xo, 2, (T2.getD 3 default).xc, [7, 8]⟩ := by unfold yF; rw [f2]; rfl
  rw [hd3, hy3]
  have hT24 : 4 = T2.length := f3.symm
  repeat (first | (apply G.ex (hd := rfl); case h => (first | exact Ex.move rfl | exact Ex.fieldE rfl | exact Ex.eqI rfl rfl | exact Ex.lenSl rfl | exact Ex.indexN rfl rfl (by first | omega | (simp; done) | (simp; omega)) | exact Ex.loadT rfl (by first | omega | (simp; done) | (simp; omega)) rfl | exact Ex.extract rfl rfl | exact Ex.assign rfl | exact Ex.pickT rfl (by first | assumption | omega) rfl)) | refine G.g_tt rfl rfl (by first | assumption | omega) ?_ | refine G.nil ?_ | refine GC.seq ?_ | refine GC.region ?_ | refine GE.then_normal ?_)
  rw [f1]
  repeat (first | (apply G.ex (hd := rfl); case h => (first | exact Ex.move rfl | exact Ex.fieldE rfl | exact Ex.indexN rfl rfl (by first | omega | (simp; done) | (simp; omega)) | exact Ex.loadT rfl (by first | omega | (simp; done) | (simp; omega)) rfl)) | refine G.yes rfl rfl ?_)
  refine G.lit rfl (by rfl) (by rfl) (by rfl) (by rfl) (by rfl) (by rfl) rfl (fun q5 => ?_)
  repeat (first | refine G.yes rfl rfl ?_)
  rw [f2]
  first | refine G.call (caps := []) (sameBytes_sp (.sl (T2.getD 3 default).xo 2 (T2.getD 3 default).xc 1 (flat eB [7, 8])) (.vec 5 1 q5 2 2 (flat eB [7, 8])) (T2.getD 3 default).xo q5 2 (T2.getD 3 default).xc 2 2 [7, 8] [7, 8] rfl rfl (by omega) (by omega)) rfl rfl rfl rfl (by repeat (first | exact Takes.nil | apply Takes.dup rfl | apply Takes.cons | exact Take1.here | apply Take1.there)) ?_ | refine G.callU (caps := []) (sameBytes_sp (.sl (T2.getD 3 default).xo 2 (T2.getD 3 default).xc 1 (flat eB [7, 8])) (.vec 5 1 q5 2 2 (flat eB [7, 8])) (T2.getD 3 default).xo q5 2 (T2.getD 3 default).xc 2 2 [7, 8] [7, 8] rfl rfl (by omega) (by omega)) rfl rfl rfl (by repeat (first | exact Takes.nil | apply Takes.dup rfl | apply Takes.cons | exact Take1.here | apply Take1.there)) ?_
  rintro v_ give_ ⟨rfl, rfl⟩ rs_ hrs_
  simp only [List.cons_append, List.nil_append] at hrs_
  subst hrs_
  rw [decide_eq_true rfl]
  repeat (first | (apply G.ex (hd := rfl); case h => (first | exact Ex.assign rfl | exact Ex.pickLT rfl rfl)) | refine G.nil ?_ | refine GC.ret ?_ | refine GE.then_normal ?_)
  refine GE.ret (by first | exact .inl rfl | exact .inr rfl) (res2 Try.results9 rfl rfl) ⟨T, o, oc, hT, hTl, rfl, rfl⟩ (by repeat (first | exact Takes.nil | apply Takes.dup rfl | apply Takes.cons | exact Take1.here | apply Take1.there)) (by repeat (first | exact Subs.refl | refine Subs.skip ?_))
/-- what was given, and what was drained, by the first k hops -/
def givenIn (H : List HoM) (T : List PaM) : Nat → List UInt8
  | 0 => []
  | k + 1 => if (H.getD k default).kind = 1 ∧ (T.getD k default).p.code = 0 then givenIn H T k ++ (H.getD k default).d.l else givenIn H T k
def givenOut (H : List HoM) (T : List PaM) : Nat → List UInt8
  | 0 => []
  | k + 1 => if (H.getD k default).kind = 8 then givenOut H T k ++ (T.getD k default).p.data else givenOut H T k
set_option maxHeartbeats 8000000 in
theorem given_sp (r : Res) (ao : Option Addr) (n c : Nat) (H : List HoM) (hl : H.length = n) [hR : RdR r ao n c 6 (flat eHo H)] (s : Res) (bo : Option Addr) (d : Nat) (T : List PaM) (hTl : T.length = n) [hS : RdR s bo n d 6 (flat ePa T)] (hn : n ≤ 300)
    (hH : ∀ h ∈ H, h.d.l.length = h.d.n ∧ h.d.n ≤ 5000) (hT : ∀ m ∈ T, m.p.data.length ≤ 5000) :
    Spec Try.prog 11 [.slice ao n c, .slice bo n d] [r, s, .per (Rd eB 1 (H.map (·.d))), .per (Rd eB 1 (T.map yF))] fun v give => ∃ io ic oo oc, v = .tuple #[.slice io (givenIn H T n).length ic, .slice oo (givenOut H T n).length oc] ∧ give = [.vec 5 1 io (givenIn H T n).length ic (flat eB (givenIn H T n)), .vec 5 1 oo (givenOut H T n).length oc (flat eB (givenOut H T n)), r, s, .per (Rd eB 1 (H.map (·.d))), .per (Rd eB 1 (T.map yF))] := by
  have hbI : ∀ k, k ≤ n → (givenIn H T k).length ≤ k * 5000 := by
    intro k
    induction k with
    | zero => intro _; exact Nat.zero_le _
    | succ k ih =>
      intro hk
      have h1 := ih (by omega)
      have h2 := hH (H.getD k default) (getD_memH H k (by omega))
      by_cases c : (H.getD k default).kind = 1 ∧ (T.getD k default).p.code = 0
      · rw [show givenIn H T (k + 1) = givenIn H T k ++ (H.getD k default).d.l from if_pos c, List.length_append, Nat.succ_mul]; exact Nat.add_le_add h1 (by rw [h2.1]; exact h2.2)
      · rw [show givenIn H T (k + 1) = givenIn H T k from if_neg c, Nat.succ_mul]; exact Nat.le_trans h1 (Nat.le_add_right _ _)
  have hbO : ∀ k, k ≤ n → (givenOut H T k).length ≤ k * 5000 := by
    intro k
    induction k with
    | zero => intro _; exact Nat.zero_le _
    | succ k ih =>
      intro hk
      have h1 := ih (by omega)
      have h2 := hT (T.getD k default) (getD_memH T k (by omega))
      by_cases c : (H.getD k default).kind = 8
      · rw [show givenOut H T (k + 1) = givenOut H T k ++ (T.getD k default).p.data from if_pos c, List.length_append, Nat.succ_mul]; exact Nat.add_le_add h1 h2
      · rw [show givenOut H T (k + 1) = givenOut H T k from if_neg c, Nat.succ_mul]; exact Nat.le_trans h1 (Nat.le_add_right _ _)
  refine Spec.intro Try.func11 rfl Try.ntmps11 rfl fun w0 rest rs_ hrs_ => ?_
  simp only [List.cons_append, List.nil_append] at hrs_
  subst hrs_
  repeat (first | (apply G.ex (hd := rfl); case h => (first | exact Ex.assign rfl)) | refine G.nil ?_ | refine GC.seq ?_ | refine GC.region ?_ | refine GC.block ?_ | refine GE.then_normal ?_)
  refine GC.nilvec 5 1 ?_
  refine GC.nilvec 5 1 ?_
  refine GC.loop (ι := Nat × (Option Addr × Nat) × (Option Addr × Nat)) (fun x => x.1 ≤ n) (fun x => n - x.1) (fun x => [(0, .slice ao n c), (1, .slice bo n d), (6, .slice x.2.1.1 (givenIn H T x.1).length x.2.1.2), (7, .slice x.2.2.1 (givenOut H T x.1).length x.2.2.2), (8, .int .i64 (x.1 : Int))]) (fun x => [.vec 5 1 x.2.1.1 (givenIn H T x.1).length x.2.1.2 (flat eB (givenIn H T x.1)), .vec 5 1 x.2.2.1 (givenOut H T x.1).length x.2.2.2 (flat eB (givenOut H T x.1)), r, s, .per (Rd eB 1 (H.map (·.d))), .per (Rd eB 1 (T.map yF))]) (0, (none, 0), (none, 0)) (Nat.zero_le _) (by simp only [fits]; repeat (first | exact trivial | refine And.intro rfl ?_)) (by repeat (first | exact Takes.nil | apply Takes.dup rfl | apply Takes.cons | exact Take1.here | apply Take1.there)) ?_
  rintro ⟨k, ⟨io, ic⟩, ⟨oo, oc⟩⟩ hk fr_ rs_ hfr_ hrs_
  simp only [List.cons_append, List.nil_append] at hfr_ hrs_
  subst hfr_ hrs_
  simp only at hk
  repeat (first | (apply G.ex (hd := rfl); case h => (first | exact Ex.move rfl | exact Ex.lss rfl rfl | exact Ex.lenSl rfl)) | refine G.nil ?_ | refine GC.seq ?_ | refine GC.region ?_ | refine GE.then_normal ?_)
  refine GC.cond_dec rfl (fun hlt => ?_) (fun hlt => ?_)
  · have hlt : k < n := by omega
    have hI := hbI k (by omega)
    have hO := hbO k (by omega)
    have hh := hH (H.getD k default) (getD_memH H k (by omega))
    have ht := hT (T.getD k default) (getD_memH T k (by omega))
    have hdk : (H.map (·.d)).getD k default = (H.getD k default).d := by
      rw [List.getD_eq_getElem?_getD, List.getElem?_map, List.getD_eq_getElem?_getD, List.getElem?_eq_getElem (show k < H.length by omega)]; rfl
    have hyk : (T.map yF).getD k default = yF (T.getD k default) := by
      rw [List.getD_eq_getElem?_getD, List.getElem?_map, List.getD_eq_getElem?_getD, List.getElem?_eq_getElem (show k < T.length by omega)]; rfl
    by_cases c1 : (H.getD k default).kind = 1
    · have c8 : ¬ (H.getD k default).kind = 8 := by omega
      have eO : givenOut H T (k + 1) = givenOut H T k := if_neg c8
      by_cases c2 : (T.getD k default).p.code = 0
      · have eI : givenIn H T (k + 1) = givenIn H T k ++ (H.getD k default).d.l := if_pos ⟨c1, c2⟩
        refine GC.conv (fun w_ H_ => H_.rdAt (l := H.map (·.d)) (enc := eB) (s := 1) (by simp) k (by rw [List.length_map]; omega)) ?_
        rw [hdk]
        have hcat : flat eB (givenIn H T k) ++ flat eB (H.getD k default).d.l = flat eB (givenIn H T (k + 1)) := by rw [eI]; exact (flat_append ..).symm
        have hln : (givenIn H T k).length + (H.getD k default).d.n = (givenIn H T (k + 1)).length := by rw [eI, List.length_append, hh.1]
        repeat (first | (apply G.ex (hd := rfl); case h => (first | exact Ex.move rfl | exact Ex.fieldE rfl | exact Ex.eqI rfl rfl | exact Ex.indexN rfl rfl (by first | omega | (simp; done) | (simp; omega)) | exact Ex.loadT0 rfl (by first | omega | (simp; done) | (simp; omega)) rfl | exact Ex.loadT rfl (by first | omega | (simp; done) | (simp; omega)) rfl | exact Ex.pickT rfl (by first | assumption | omega) rfl)) | refine G.g_tt rfl rfl (by first | assumption | omega) ?_ | refine G.nil ?_ | refine GC.seq ?_ | refine GC.region ?_ | refine GC.block ?_ | refine GC.skip ?_ | refine GE.then_normal ?_ | refine GC.cond_yes rfl (by first | assumption | omega) ?_)
        refine G.app rfl rfl (by rfl) (by omega) rfl (hcat) (fun a2 c2 rs_ hrs_ => ?_)
        try simp only at hrs_
        subst hrs_
        rw [hln, ← eO]
        repeat (first | (apply G.ex (hd := rfl); case h => (first | exact Ex.move rfl | exact Ex.fieldE rfl | exact Ex.add rfl rfl (by omega) | exact Ex.eqI rfl rfl | exact Ex.indexN rfl rfl (by first | omega | (simp; done) | (simp; omega)) | exact Ex.loadT0 rfl (by first | omega | (simp; done) | (simp; omega)) rfl | exact Ex.assign rfl)) | refine G.nil ?_ | refine GC.seq ?_ | refine GC.region ?_ | refine GC.skip ?_ | refine GE.then_normal ?_ | refine GE.block_normal ?_ | refine GC.cond_no rfl (by first | assumption | omega) ?_)
        rw [show (k : Int) + 1 = ((k + 1 : Nat) : Int) by omega]
        refine GE.loop (k + 1, (a2, c2), (oo, oc)) (by simp only; omega) (by simp only; omega) (by simp only [fits]; repeat (first | exact trivial | refine And.intro rfl ?_)) (by repeat (first | exact Takes.nil | apply Takes.dup rfl | apply Takes.cons | exact Take1.here | apply Take1.there)) (by repeat (first | exact Subs.refl | refine Subs.skip ?_))
      · have eI : givenIn H T (k + 1) = givenIn H T k := if_neg (fun h => c2 h.2)
        rw [← eI, ← eO]
        repeat (first | (apply G.ex (hd := rfl); case h => (first | exact Ex.move rfl | exact Ex.fieldE rfl | exact Ex.add rfl rfl (by omega) | exact Ex.eqI rfl rfl | exact Ex.indexN rfl rfl (by first | omega | (simp; done) | (simp; omega)) | exact Ex.loadT0 rfl (by first | omega | (simp; done) | (simp; omega)) rfl | exact Ex.assign rfl | exact Ex.pickT rfl (by first | assumption | omega) rfl)) | refine G.g_tt rfl rfl (by first | assumption | omega) ?_ | refine G.nil ?_ | refine GC.seq ?_ | refine GC.region ?_ | refine GC.block ?_ | refine GC.skip ?_ | refine GE.then_normal ?_ | refine GE.block_normal ?_ | refine GC.cond_no rfl (by first | assumption | omega) ?_)
        rw [show (k : Int) + 1 = ((k + 1 : Nat) : Int) by omega]
        refine GE.loop (k + 1, (io, ic), (oo, oc)) (by simp only; omega) (by simp only; omega) (by simp only [fits]; repeat (first | exact trivial | refine And.intro rfl ?_)) (by repeat (first | exact Takes.nil | apply Takes.dup rfl | apply Takes.cons | exact Take1.here | apply Take1.there)) (by repeat (first | exact Subs.refl | refine Subs.skip ?_))
    · have eI : givenIn H T (k + 1) = givenIn H T k := if_neg (fun h => c1 h.1)
      by_cases c8 : (H.getD k default).kind = 8
      · have eO : givenOut H T (k + 1) = givenOut H T k ++ (T.getD k default).p.data := if_pos c8
        refine GC.conv (fun w_ H_ => H_.rdAt (l := T.map yF) (enc := eB) (s := 1) (by simp) k (by rw [List.length_map]; omega)) ?_
        rw [hyk, ← eI]
        have hcat : flat eB (givenOut H T k) ++ flat eB (T.getD k default).p.data = flat eB (givenOut H T (k + 1)) := by rw [eO]; exact (flat_append ..).symm
        have hln : (givenOut H T k).length + (T.getD k default).p.data.length = (givenOut H T (k + 1)).length := by rw [eO, List.length_append]
        rw [show yF (T.getD k default) = ⟨(T.getD k default).xo, (T.getD k default).p.data.length, (T.getD k default).xc, (T.getD k default).p.data⟩ from rfl]
        repeat (first | (apply G.ex (hd := rfl); case h => (first | exact Ex.move rfl | exact Ex.fieldE rfl | exact Ex.eqI rfl rfl | exact Ex.indexN rfl rfl (by first | omega | (simp; done) | (simp; omega)) | exact Ex.loadT0 rfl (by first | omega | (simp; done) | (simp; omega)) rfl | exact Ex.loadT rfl (by first | omega | (simp; done) | (simp; omega)) rfl | exact Ex.pickF rfl (by first | assumption | omega) rfl)) | refine G.g_tf rfl rfl (by first | assumption | omega) rfl ?_ | refine G.nil ?_ | refine GC.seq ?_ | refine GC.region ?_ | refine GC.block ?_ | refine GC.skip ?_ | refine GE.then_normal ?_ | refine GC.cond_yes rfl (by first | assumption | omega) ?_ | refine GC.cond_f rfl ?_)
        refine G.app rfl rfl (by rfl) (by omega) rfl (hcat) (fun a2 c2 rs_ hrs_ => ?_)
        try simp only at hrs_
        subst hrs_
        rw [hln]
        repeat (first | (apply G.ex (hd := rfl); case h => (first | exact Ex.move rfl | exact Ex.add rfl rfl (by omega) | exact Ex.assign rfl)) | refine G.nil ?_ | refine GC.region ?_ | refine GE.then_normal ?_ | refine GE.block_normal ?_)
        rw [show (k : Int) + 1 = ((k + 1 : Nat) : Int) by omega]
        refine GE.loop (k + 1, (io, ic), (a2, c2)) (by simp only; omega) (by simp only; omega) (by simp only [fits]; repeat (first | exact trivial | refine And.intro rfl ?_)) (by repeat (first | exact Takes.nil | apply Takes.dup rfl | apply Takes.cons | exact Take1.here | apply Take1.there)) (by repeat (first | exact Subs.refl | refine Subs.skip ?_))
      · have eO : givenOut H T (k + 1) = givenOut H T k := if_neg c8
        rw [← eI, ← eO]
        repeat (first | (apply G.ex (hd := rfl); case h => (first | exact Ex.move rfl | exact Ex.fieldE rfl | exact Ex.add rfl rfl (by omega) | exact Ex.eqI rfl rfl | exact Ex.indexN rfl rfl (by first | omega | (simp; done) | (simp; omega)) | exact Ex.loadT0 rfl (by first | omega | (simp; done) | (simp; omega)) rfl | exact Ex.assign rfl | exact Ex.pickF rfl (by first | assumption | omega) rfl)) | refine G.g_tf rfl rfl (by first | assumption | omega) rfl ?_ | refine G.nil ?_ | refine GC.seq ?_ | refine GC.region ?_ | refine GC.block ?_ | refine GC.skip ?_ | refine GE.then_normal ?_ | refine GE.block_normal ?_ | refine GC.cond_no rfl (by first | assumption | omega) ?_ | refine GC.cond_f rfl ?_)
        rw [show (k : Int) + 1 = ((k + 1 : Nat) : Int) by omega]
        refine GE.loop (k + 1, (io, ic), (oo, oc)) (by simp only; omega) (by simp only; omega) (by simp only [fits]; repeat (first | exact trivial | refine And.intro rfl ?_)) (by repeat (first | exact Takes.nil | apply Takes.dup rfl | apply Takes.cons | exact Take1.here | apply Take1.there)) (by repeat (first | exact Subs.refl | refine Subs.skip ?_))
  · obtain rfl : k = n := by omega
    repeat (first | (apply G.ex (hd := rfl); case h => (first | exact Ex.move rfl | exact Ex.assign rfl)) | refine G.nil ?_ | refine GC.seq ?_ | refine GC.region ?_ | refine GC.ret ?_ | refine GC.exit ?_ | refine GE.then_normal ?_ | refine GE.then_exit ?_ | refine GE.block_hit ?_)
    refine GE.ret (by first | exact .inl rfl | exact .inr rfl) (res2 Try.results11 rfl rfl) ⟨io, ic, oo, oc, rfl, rfl⟩ (by repeat (first | exact Takes.nil | apply Takes.dup rfl | apply Takes.cons | exact Take1.here | apply Take1.there)) (by repeat (first | exact Subs.refl | refine Subs.skip ?_))
end pipe
end Go.Proofs.Ytcllddkhnbnigaa
