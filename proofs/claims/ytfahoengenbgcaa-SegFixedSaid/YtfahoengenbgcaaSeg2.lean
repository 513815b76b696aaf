/-
  CONTRACT of seg.Encode, by the kit.
-/
import Derived.Test.YtfahoengenbgcaaSeg
import Derived.Test.YtfahoengenbgcaaCom
namespace Go.Proofs.Ytfahoengenbgcaa
open Go.RowKit
attribute [local irreducible] Ex G GC GE Gq FPost LPost
set_option linter.unusedVariables false
set_option linter.unusedSimpArgs false

namespace seg
theorem bt_step (f k : Nat) : f % 2 ^ (k + 1) = f % 2 ^ k + if bt f k then 2 ^ k else 0 := by
  rw [Nat.mod_pow_succ]
  unfold bt
  by_cases h : f / 2 ^ k % 2 = 1
  · rw [h]; simp
  · rw [show f / 2 ^ k % 2 = 0 by omega]; simp
theorem bt_t {f k : Nat} (h : bt f k = true) : f % 2 ^ (k + 1) = f % 2 ^ k + 2 ^ k := by rw [bt_step, h]; rfl
theorem bt_f {f k : Nat} (h : bt f k = false) : f % 2 ^ (k + 1) = f % 2 ^ k := by rw [bt_step, h]; rfl
theorem flt_len {s : Sg} (h0 : flt s = 0) : s.sk.length ≤ 3 ∧ s.d.length ≤ 64 := by
  unfold flt at h0
  by_cases h : 3 < s.sk.length ∨ 64 < s.d.length
  · rw [if_pos h] at h0; omega
  · omega
def pre (s : Sg) : List UInt8 := w16 s.q ++ w16 s.a ++ w16 s.w ++ [byteZ s.f, byteZ s.sk.length] ++ w16 0
theorem pre_body (s : Sg) : pre s ++ rg s.sk ++ s.d = body s := rfl
theorem rg_snoc (l : List R) (j : Nat) (h : j < l.length) : rg (l.take j) ++ w16 (l.getD j default).1 ++ w16 (l.getD j default).2 = rg (l.take (j + 1)) := by
  rw [List.take_succ_eq_append_getElem h, List.getD_eq_getElem?_getD, List.getElem?_eq_getElem h]
  simp only [rg, List.flatMap_append, List.flatMap_cons, List.flatMap_nil, List.append_nil, List.append_assoc, Option.getD_some]
set_option maxHeartbeats 4000000 in
set_option maxRecDepth 100000 in
theorem encode_sp (s : Sg) (h : Rng s) (h0 : flt s = 0) (r rd : Res) (ra : Option Addr) (rc : Nat) (da : Option Addr) (dc : Nat) [hr : RdR r ra s.sk.length rc 2 (flat eR s.sk)] [hd : RdR rd da s.d.length dc 1 (flat eB s.d)] :
    Spec Try.prog 7 [.agg (eSg s ra rc da dc).toArray] [r, rd] fun v give => ∃ oa oc, v = .tuple #[.slice oa (10 + 4 * s.sk.length + s.d.length) oc, .int .i64 0] ∧ give = [.vec 5 1 oa (10 + 4 * s.sk.length + s.d.length) oc (flat eB (enc s)), r, rd] := by
  obtain ⟨h3, h64⟩ := flt_len h0
  have hf16 := h.f
  have F := fault_sp s h r ra rc da dc
  unfold eSg sg at F
  rw [h0] at F
  unfold eSg sg
  refine Spec.intro Try.func7 rfl Try.ntmps7 rfl fun w0 rest rs_ hrs_ => ?_
  simp only [List.cons_append, List.nil_append] at hrs_
  subst hrs_
  repeat (first | refine GC.seq ?_ | refine GC.region ?_)
  refine G.box rfl rfl rfl (fun b => ?_)
  repeat (first | (apply G.ex (hd := rfl); case h => (first | exact Ex.assign rfl | exact Ex.loadBA rfl rfl rfl)) | refine G.nil ?_ | refine GC.seq ?_ | refine GC.region ?_ | refine GE.then_normal ?_)
  first | refine G.call (caps := []) (F) rfl rfl rfl rfl (by repeat (first | exact Takes.nil | apply Takes.dup rfl | apply Takes.cons | exact Take1.here | apply Take1.there)) ?_ | refine G.callU (caps := []) (F) rfl rfl rfl (by repeat (first | exact Takes.nil | apply Takes.dup rfl | apply Takes.cons | exact Take1.here | apply Take1.there)) ?_
  rintro v_ give_ ⟨rfl, rfl⟩ rs_ hrs_
  simp only [List.cons_append, List.nil_append] at hrs_
  subst hrs_
  repeat (first | (apply G.ex (hd := rfl); case h => (first | exact Ex.move rfl | exact Ex.neI rfl rfl | exact Ex.assign rfl)) | refine G.nil ?_ | refine GC.seq ?_ | refine GC.region ?_ | refine GC.skip ?_ | refine GE.then_normal ?_ | refine GC.cond_no rfl (by first | assumption | omega) ?_)
  first | refine G.nilvec 5 1 ?_ | refine GC.nilvec 5 1 ?_
  refine GC.drawA [] [.blk b 26 [.int .i64 s.q, .int .i64 s.a, .int .i64 s.w, .bool (bt s.f 0), .bool (bt s.f 1), .bool (bt s.f 2), .bool (bt s.f 3), .slice ra s.sk.length rc, .slice da s.d.length dc]] (by repeat (first | exact Takes.nil | apply Takes.dup rfl | apply Takes.cons | exact Take1.here | apply Take1.there)) (by kernel_rfl) ?_
  first | (apply GA.take [] (hD := .inl rfl) (hsub := ⟨_, Takes.nil⟩) (i := 0) (hi := rfl) (hs := by kernel_rfl) (hfr := by kernel_rfl) (hr := by kernel_rfl) (hQ := (by repeat (first | exact NoPanic.fpost | apply NoPanic.then_ | apply NoPanic.block))) (hd := rfl); case hx => (first | exact Ex.fieldB rfl))
  first | (apply GA.take _ (hD := .inr ⟨rfl, by kernel_rfl⟩) (hsub := ⟨_, (by repeat (first | exact Takes.nil | apply Takes.dup rfl | apply Takes.cons | exact Take1.here | apply Take1.there))⟩) (i := 1) (hi := rfl) (hs := by kernel_rfl) (hfr := by kernel_rfl) (hr := by kernel_rfl) (hQ := (by repeat (first | exact NoPanic.fpost | apply NoPanic.then_ | apply NoPanic.block))) (hd := rfl); case hx => (first | exact Ex.loadB rfl rfl))
  first | (apply GA.take [] (hD := .inl rfl) (hsub := ⟨_, Takes.nil⟩) (i := 3) (hi := rfl) (hs := by kernel_rfl) (hfr := by kernel_rfl) (hr := by kernel_rfl) (hQ := (by repeat (first | exact NoPanic.fpost | apply NoPanic.then_ | apply NoPanic.block))) (hd := rfl); case hx => (first | exact Ex.fieldB rfl))
  first | (apply GA.take _ (hD := .inr ⟨rfl, by kernel_rfl⟩) (hsub := ⟨_, (by repeat (first | exact Takes.nil | apply Takes.dup rfl | apply Takes.cons | exact Take1.here | apply Take1.there))⟩) (i := 4) (hi := rfl) (hs := by kernel_rfl) (hfr := by kernel_rfl) (hr := by kernel_rfl) (hQ := (by repeat (first | exact NoPanic.fpost | apply NoPanic.then_ | apply NoPanic.block))) (hd := rfl); case hx => (first | exact Ex.loadB rfl rfl))
  first | (apply GA.take [] (hD := .inl rfl) (hsub := ⟨_, Takes.nil⟩) (i := 6) (hi := rfl) (hs := by kernel_rfl) (hfr := by kernel_rfl) (hr := by kernel_rfl) (hQ := (by repeat (first | exact NoPanic.fpost | apply NoPanic.then_ | apply NoPanic.block))) (hd := rfl); case hx => (first | exact Ex.fieldB rfl))
  first | (apply GA.take _ (hD := .inr ⟨rfl, by kernel_rfl⟩) (hsub := ⟨_, (by repeat (first | exact Takes.nil | apply Takes.dup rfl | apply Takes.cons | exact Take1.here | apply Take1.there))⟩) (i := 7) (hi := rfl) (hs := by kernel_rfl) (hfr := by kernel_rfl) (hr := by kernel_rfl) (hQ := (by repeat (first | exact NoPanic.fpost | apply NoPanic.then_ | apply NoPanic.block))) (hd := rfl); case hx => (first | exact Ex.loadB rfl rfl))
  refine GA.one (i := 2) (by kernel_rfl) rfl ?_
  first | refine G.call (caps := []) (two_sp none 0 0 [] rfl (by omega) s.q h.q) rfl rfl rfl rfl (by repeat (first | exact Takes.nil | apply Takes.dup rfl | apply Takes.cons | exact Take1.here | apply Take1.there)) ?_ | refine G.callU (caps := []) (two_sp none 0 0 [] rfl (by omega) s.q h.q) rfl rfl rfl (by repeat (first | exact Takes.nil | apply Takes.dup rfl | apply Takes.cons | exact Take1.here | apply Take1.there)) ?_
  rintro v_ give_ ⟨o1, c1, rfl, rfl⟩ rs_ hrs_
  simp only [List.cons_append, List.nil_append] at hrs_
  subst hrs_
  try refine G.nil ?_
  refine GA.back (by first | exact .inl (by decide) | exact .inr ⟨_, (by repeat (first | exact Takes.nil | apply Takes.dup rfl | apply Takes.cons | exact Take1.here | apply Take1.there))⟩) ?_
  refine GA.one (i := 5) (by kernel_rfl) rfl ?_
  first | refine G.call (caps := []) (two_sp o1 2 c1 ([] ++ w16 s.q) rfl (by omega) s.a h.a) rfl rfl rfl rfl (by repeat (first | exact Takes.nil | apply Takes.dup rfl | apply Takes.cons | exact Take1.here | apply Take1.there)) ?_ | refine G.callU (caps := []) (two_sp o1 2 c1 ([] ++ w16 s.q) rfl (by omega) s.a h.a) rfl rfl rfl (by repeat (first | exact Takes.nil | apply Takes.dup rfl | apply Takes.cons | exact Take1.here | apply Take1.there)) ?_
  rintro v_ give_ ⟨o2, c2, rfl, rfl⟩ rs_ hrs_
  simp only [List.cons_append, List.nil_append] at hrs_
  subst hrs_
  try refine G.nil ?_
  refine GA.back (by first | exact .inl (by decide) | exact .inr ⟨_, (by repeat (first | exact Takes.nil | apply Takes.dup rfl | apply Takes.cons | exact Take1.here | apply Take1.there))⟩) ?_
  refine GA.one (i := 8) (by kernel_rfl) rfl ?_
  first | refine G.call (caps := []) (two_sp o2 4 c2 ([] ++ w16 s.q ++ w16 s.a) rfl (by omega) s.w h.w) rfl rfl rfl rfl (by repeat (first | exact Takes.nil | apply Takes.dup rfl | apply Takes.cons | exact Take1.here | apply Take1.there)) ?_ | refine G.callU (caps := []) (two_sp o2 4 c2 ([] ++ w16 s.q ++ w16 s.a) rfl (by omega) s.w h.w) rfl rfl rfl (by repeat (first | exact Takes.nil | apply Takes.dup rfl | apply Takes.cons | exact Take1.here | apply Take1.there)) ?_
  rintro v_ give_ ⟨o3, c3, rfl, rfl⟩ rs_ hrs_
  simp only [List.cons_append, List.nil_append] at hrs_
  subst hrs_
  try refine G.nil ?_
  refine GA.back (by first | exact .inl (by decide) | exact .inr ⟨_, (by repeat (first | exact Takes.nil | apply Takes.dup rfl | apply Takes.cons | exact Take1.here | apply Take1.there))⟩) ?_
  first | (apply GA.take [] (hD := .inl rfl) (hsub := ⟨_, Takes.nil⟩) (i := 9) (hi := rfl) (hs := by kernel_rfl) (hfr := by kernel_rfl) (hr := by kernel_rfl) (hQ := (by repeat (first | exact NoPanic.fpost | apply NoPanic.then_ | apply NoPanic.block))) (hd := rfl); case hx => (first | exact Ex.assign rfl))
  refine GA.done (by kernel_rfl) ?_
  repeat (first | (apply G.ex (hd := rfl); case h => (first | exact Ex.assign rfl)) | refine G.nil ?_ | refine GC.seq ?_ | refine GC.region ?_ | refine GE.then_normal ?_)
  first | refine G.call (caps := []) (flags_sp b) rfl rfl rfl rfl (by repeat (first | exact Takes.nil | apply Takes.dup rfl | apply Takes.cons | exact Take1.here | apply Take1.there)) ?_ | refine G.callU (caps := []) (flags_sp b) rfl rfl rfl (by repeat (first | exact Takes.nil | apply Takes.dup rfl | apply Takes.cons | exact Take1.here | apply Take1.there)) ?_
  rintro v_ give_ ⟨rfl, rfl⟩ rs_ hrs_
  simp only [List.cons_append, List.nil_append] at hrs_
  subst hrs_
  repeat (first | (apply G.ex (hd := rfl); case h => (first | exact Ex.move rfl)) | refine G.nil ?_ | refine GC.block ?_ | refine GE.then_normal ?_)
  unfold ptrs
  refine GC.loop (ι := Nat × Nat) (fun x => x.1 ≤ 4 ∧ x.2 = s.f % 2 ^ x.1) (fun x => 4 - x.1) (fun x => [(1, .pointer (some (badr b 0))), (5, .slice o3 6 c3), (6, .int .u8 (x.2 : Int)), (26, .agg [.pointer (some (badr b 3)), .pointer (some (badr b 4)), .pointer (some (badr b 5)), .pointer (some (badr b 6))].toArray), (27, .int .i64 (x.1 : Int))]) (fun x => [.blk b 26 [.int .i64 s.q, .int .i64 s.a, .int .i64 s.w, .bool (bt s.f 0), .bool (bt s.f 1), .bool (bt s.f 2), .bool (bt s.f 3), .slice ra s.sk.length rc, .slice da s.d.length dc], .vec 5 1 o3 6 c3 (flat eB ([] ++ w16 s.q ++ w16 s.a ++ w16 s.w)), r, rd]) (0, 0) ⟨Nat.zero_le _, by simp [Nat.mod_one]⟩ (by simp only [fits]; repeat (first | exact trivial | refine And.intro rfl ?_)) (by repeat (first | exact Takes.nil | apply Takes.dup rfl | apply Takes.cons | exact Take1.here | apply Take1.there)) ?_
  rintro ⟨k, v⟩ ⟨hk_, hv_⟩ fr_ rs_ hfr_ hrs_
  simp only [List.cons_append, List.nil_append] at hfr_ hrs_
  subst hfr_ hrs_
  obtain ⟨hk, hv⟩ : k ≤ 4 ∧ v = s.f % 2 ^ k := ⟨hk_, hv_⟩
  clear hk_ hv_
  subst hv
  repeat (first | (apply G.ex (hd := rfl); case h => (first | exact Ex.lss rfl rfl)) | refine G.nil ?_ | refine GC.seq ?_ | refine GC.region ?_ | refine GE.then_normal ?_)
  refine GC.cond_dec rfl (fun hlt => ?_) (fun hlt => ?_)
  · rcases (show k = 0 ∨ k = 1 ∨ k = 2 ∨ k = 3 by omega) with e | e | e | e
    · subst e
      clear hlt
      repeat (first | (apply G.ex (hd := rfl); case h => (first | exact Ex.move rfl | exact Ex.nilCheck rfl | exact Ex.loadB rfl rfl | exact Ex.assign rfl | exact Ex.indexV rfl rfl rfl rfl (by omega))) | refine G.nil ?_ | refine GC.seq ?_ | refine GC.region ?_ | refine GC.block ?_ | refine GC.skip ?_ | refine GE.then_normal ?_)
      refine GC.cond_bool rfl (fun hb => ?_) (fun hb => ?_)
      · have e := bt_t hb
        repeat (first | (apply G.ex (hd := rfl); case h => (first | exact Ex.move rfl | exact Ex.add rfl rfl (by omega) | exact Ex.assign rfl | exact Ex.shlK rfl rfl (by omega) | exact Ex.orK rfl rfl (by omega))) | refine G.nil ?_ | refine GC.region ?_ | refine GE.then_normal ?_ | refine GE.block_normal ?_)
        refine GE.loop (1, s.f % 2 ^ 0 + 2 ^ 0) ⟨by simp only; omega, e.symm⟩ (by simp only; omega) (by simp only [fits]; repeat (first | exact trivial | refine And.intro rfl ?_)) (by repeat (first | exact Takes.nil | apply Takes.dup rfl | apply Takes.cons | exact Take1.here | apply Take1.there)) (by repeat (first | exact Subs.refl | refine Subs.skip ?_))
      · have e := bt_f hb
        repeat (first | (apply G.ex (hd := rfl); case h => (first | exact Ex.move rfl | exact Ex.add rfl rfl (by omega))) | refine G.nil ?_ | refine GC.region ?_ | refine GC.skip ?_ | refine GE.then_normal ?_ | refine GE.block_normal ?_)
        refine GE.loop (1, s.f % 2 ^ 0) ⟨by simp only; omega, e.symm⟩ (by simp only; omega) (by simp only [fits]; repeat (first | exact trivial | refine And.intro rfl ?_)) (by repeat (first | exact Takes.nil | apply Takes.dup rfl | apply Takes.cons | exact Take1.here | apply Take1.there)) (by repeat (first | exact Subs.refl | refine Subs.skip ?_))
    · subst e
      clear hlt
      repeat (first | (apply G.ex (hd := rfl); case h => (first | exact Ex.move rfl | exact Ex.nilCheck rfl | exact Ex.loadB rfl rfl | exact Ex.assign rfl | exact Ex.indexV rfl rfl rfl rfl (by omega))) | refine G.nil ?_ | refine GC.seq ?_ | refine GC.region ?_ | refine GC.block ?_ | refine GC.skip ?_ | refine GE.then_normal ?_)
      refine GC.cond_bool rfl (fun hb => ?_) (fun hb => ?_)
      · have e := bt_t hb
        repeat (first | (apply G.ex (hd := rfl); case h => (first | exact Ex.move rfl | exact Ex.add rfl rfl (by omega) | exact Ex.assign rfl | exact Ex.shlK rfl rfl (by omega) | exact Ex.orK rfl rfl (by omega))) | refine G.nil ?_ | refine GC.region ?_ | refine GE.then_normal ?_ | refine GE.block_normal ?_)
        refine GE.loop (2, s.f % 2 ^ 1 + 2 ^ 1) ⟨by simp only; omega, e.symm⟩ (by simp only; omega) (by simp only [fits]; repeat (first | exact trivial | refine And.intro rfl ?_)) (by repeat (first | exact Takes.nil | apply Takes.dup rfl | apply Takes.cons | exact Take1.here | apply Take1.there)) (by repeat (first | exact Subs.refl | refine Subs.skip ?_))
      · have e := bt_f hb
        repeat (first | (apply G.ex (hd := rfl); case h => (first | exact Ex.move rfl | exact Ex.add rfl rfl (by omega))) | refine G.nil ?_ | refine GC.region ?_ | refine GC.skip ?_ | refine GE.then_normal ?_ | refine GE.block_normal ?_)
        refine GE.loop (2, s.f % 2 ^ 1) ⟨by simp only; omega, e.symm⟩ (by simp only; omega) (by simp only [fits]; repeat (first | exact trivial | refine And.intro rfl ?_)) (by repeat (first | exact Takes.nil | apply Takes.dup rfl | apply Takes.cons | exact Take1.here | apply Take1.there)) (by repeat (first | exact Subs.refl | refine Subs.skip ?_))
    · subst e
      clear hlt
      repeat (first | (apply G.ex (hd := rfl); case h => (first | exact Ex.move rfl | exact Ex.nilCheck rfl | exact Ex.loadB rfl rfl | exact Ex.assign rfl | exact Ex.indexV rfl rfl rfl rfl (by omega))) | refine G.nil ?_ | refine GC.seq ?_ | refine GC.region ?_ | refine GC.block ?_ | refine GC.skip ?_ | refine GE.then_normal ?_)
      refine GC.cond_bool rfl (fun hb => ?_) (fun hb => ?_)
      · have e := bt_t hb
        repeat (first | (apply G.ex (hd := rfl); case h => (first | exact Ex.move rfl | exact Ex.add rfl rfl (by omega) | exact Ex.assign rfl | exact Ex.shlK rfl rfl (by omega) | exact Ex.orK rfl rfl (by omega))) | refine G.nil ?_ | refine GC.region ?_ | refine GE.then_normal ?_ | refine GE.block_normal ?_)
        refine GE.loop (3, s.f % 2 ^ 2 + 2 ^ 2) ⟨by simp only; omega, e.symm⟩ (by simp only; omega) (by simp only [fits]; repeat (first | exact trivial | refine And.intro rfl ?_)) (by repeat (first | exact Takes.nil | apply Takes.dup rfl | apply Takes.cons | exact Take1.here | apply Take1.there)) (by repeat (first | exact Subs.refl | refine Subs.skip ?_))
      · have e := bt_f hb
        repeat (first | (apply G.ex (hd := rfl); case h => (first | exact Ex.move rfl | exact Ex.add rfl rfl (by omega))) | refine G.nil ?_ | refine GC.region ?_ | refine GC.skip ?_ | refine GE.then_normal ?_ | refine GE.block_normal ?_)
        refine GE.loop (3, s.f % 2 ^ 2) ⟨by simp only; omega, e.symm⟩ (by simp only; omega) (by simp only [fits]; repeat (first | exact trivial | refine And.intro rfl ?_)) (by repeat (first | exact Takes.nil | apply Takes.dup rfl | apply Takes.cons | exact Take1.here | apply Take1.there)) (by repeat (first | exact Subs.refl | refine Subs.skip ?_))
    · subst e
      clear hlt
      repeat (first | (apply G.ex (hd := rfl); case h => (first | exact Ex.move rfl | exact Ex.nilCheck rfl | exact Ex.loadB rfl rfl | exact Ex.assign rfl | exact Ex.indexV rfl rfl rfl rfl (by omega))) | refine G.nil ?_ | refine GC.seq ?_ | refine GC.region ?_ | refine GC.block ?_ | refine GC.skip ?_ | refine GE.then_normal ?_)
      refine GC.cond_bool rfl (fun hb => ?_) (fun hb => ?_)
      · have e := bt_t hb
        repeat (first | (apply G.ex (hd := rfl); case h => (first | exact Ex.move rfl | exact Ex.add rfl rfl (by omega) | exact Ex.assign rfl | exact Ex.shlK rfl rfl (by omega) | exact Ex.orK rfl rfl (by omega))) | refine G.nil ?_ | refine GC.region ?_ | refine GE.then_normal ?_ | refine GE.block_normal ?_)
        refine GE.loop (4, s.f % 2 ^ 3 + 2 ^ 3) ⟨by simp only; omega, e.symm⟩ (by simp only; omega) (by simp only [fits]; repeat (first | exact trivial | refine And.intro rfl ?_)) (by repeat (first | exact Takes.nil | apply Takes.dup rfl | apply Takes.cons | exact Take1.here | apply Take1.there)) (by repeat (first | exact Subs.refl | refine Subs.skip ?_))
      · have e := bt_f hb
        repeat (first | (apply G.ex (hd := rfl); case h => (first | exact Ex.move rfl | exact Ex.add rfl rfl (by omega))) | refine G.nil ?_ | refine GC.region ?_ | refine GC.skip ?_ | refine GE.then_normal ?_ | refine GE.block_normal ?_)
        refine GE.loop (4, s.f % 2 ^ 3) ⟨by simp only; omega, e.symm⟩ (by simp only; omega) (by simp only [fits]; repeat (first | exact trivial | refine And.intro rfl ?_)) (by repeat (first | exact Takes.nil | apply Takes.dup rfl | apply Takes.cons | exact Take1.here | apply Take1.there)) (by repeat (first | exact Subs.refl | refine Subs.skip ?_))
  · obtain rfl : k = 4 := by omega
    have e4 : s.f % 2 ^ 4 = s.f := by omega
    rw [e4]
    have eb : ((s.f : Nat) : Int) = ((byteZ s.f).toNat : Int) := by rw [byteZ_toNat]; omega
    rw [eb]
    have hcat : flat eB ([] ++ w16 s.q ++ w16 s.a ++ w16 s.w) ++ flat eB [byteZ s.f, byteZ s.sk.length] = flat eB (w16 s.q ++ w16 s.a ++ w16 s.w ++ [byteZ s.f, byteZ s.sk.length]) := (flat_append ..).symm
    repeat (first | (apply G.ex (hd := rfl); case h => (first | exact Ex.move rfl | exact Ex.fieldB rfl | exact Ex.loadB rfl rfl | exact Ex.lenSl rfl | exact Ex.conv8 rfl)) | refine GC.seq ?_ | refine GC.region ?_ | refine GC.exit ?_ | refine GE.then_normal ?_ | refine GE.then_exit ?_ | refine GE.block_hit ?_)
    rw [← byteZ_toNat (s.sk.length : Int)]
    refine G.lit rfl (by rfl) (by rfl) (by rfl) (by rfl) (by rfl) (by rfl) rfl (fun y => ?_)
    repeat (first | fail)
    refine G.app rfl rfl (by rfl) (by omega) rfl (hcat) (fun o4 c4 rs_ hrs_ => ?_)
    try simp only at hrs_
    subst hrs_
    repeat (first | fail)
    first | refine G.call (caps := []) (two_sp o4 8 c4 (w16 s.q ++ w16 s.a ++ w16 s.w ++ [byteZ s.f, byteZ s.sk.length]) rfl (by omega) 0 (by omega)) rfl rfl rfl rfl (by repeat (first | exact Takes.nil | apply Takes.dup rfl | apply Takes.cons | exact Take1.here | apply Take1.there)) ?_ | refine G.callU (caps := []) (two_sp o4 8 c4 (w16 s.q ++ w16 s.a ++ w16 s.w ++ [byteZ s.f, byteZ s.sk.length]) rfl (by omega) 0 (by omega)) rfl rfl rfl (by repeat (first | exact Takes.nil | apply Takes.dup rfl | apply Takes.cons | exact Take1.here | apply Take1.there)) ?_
    rintro v_ give_ ⟨o5, c5, rfl, rfl⟩ rs_ hrs_
    simp only [List.cons_append, List.nil_append] at hrs_
    subst hrs_
    have hpre : flat eB (w16 s.q ++ w16 s.a ++ w16 s.w ++ [byteZ s.f, byteZ s.sk.length] ++ w16 0) = flat eB (pre s ++ rg (s.sk.take 0)) := by
      rw [List.take_zero]; show _ = flat eB (pre s ++ []); rw [List.append_nil]; rfl
    rw [hpre]
    have hpl : (pre s).length = 10 := rfl
    repeat (first | (apply G.ex (hd := rfl); case h => (first | exact Ex.move rfl | exact Ex.fieldB rfl | exact Ex.loadB rfl rfl | exact Ex.lenSl rfl | exact Ex.assign rfl)) | refine G.nil ?_ | refine GC.seq ?_ | refine GC.region ?_ | refine GC.block ?_ | refine GE.then_normal ?_)
    refine GC.loop (ι := Nat × Option Addr × Nat) (fun x => x.1 ≤ s.sk.length) (fun x => s.sk.length - x.1) (fun x => [(1, .pointer (some (badr b 0))), (5, .slice x.2.1 (10 + 4 * x.1) x.2.2), (49, .slice ra s.sk.length rc), (50, .int .i64 (s.sk.length : Int)), (51, .int .i64 (x.1 : Int))]) (fun x => [.blk b 26 [.int .i64 s.q, .int .i64 s.a, .int .i64 s.w, .bool (bt s.f 0), .bool (bt s.f 1), .bool (bt s.f 2), .bool (bt s.f 3), .slice ra s.sk.length rc, .slice da s.d.length dc], .vec 5 1 x.2.1 (10 + 4 * x.1) x.2.2 (flat eB (pre s ++ rg (s.sk.take x.1))), r, rd]) (0, o5, c5) (Nat.zero_le _) (by simp only [fits]; repeat (first | exact trivial | refine And.intro rfl ?_)) (by repeat (first | exact Takes.nil | apply Takes.dup rfl | apply Takes.cons | exact Take1.here | apply Take1.there)) ?_
    rintro ⟨j, oa, oc⟩ hj fr_ rs_ hfr_ hrs_
    simp only [List.cons_append, List.nil_append] at hfr_ hrs_
    subst hfr_ hrs_
    simp only at hj
    repeat (first | (apply G.ex (hd := rfl); case h => (first | exact Ex.lss rfl rfl)) | refine G.nil ?_ | refine GC.seq ?_ | refine GC.region ?_ | refine GE.then_normal ?_)
    refine GC.cond_dec rfl (fun hltj => ?_) (fun hltj => ?_)
    · have hltj : j < s.sk.length := by omega
      have hrj := h.sk (s.sk.getD j default) (by rw [List.getD_eq_getElem?_getD, List.getElem?_eq_getElem hltj]; exact List.getElem_mem _)
      have hlj : (pre s ++ rg (s.sk.take j)).length = 10 + 4 * j := by rw [List.length_append, hpl, rg_len, List.length_take]; omega
      have hx : pre s ++ rg (s.sk.take j) ++ w16 (s.sk.getD j default).1 ++ w16 (s.sk.getD j default).2 = pre s ++ rg (s.sk.take (j + 1)) := by rw [← rg_snoc s.sk j hltj]; simp only [List.append_assoc]
      repeat (first | (apply G.ex (hd := rfl); case h => (first | exact Ex.indexN rfl rfl (by first | omega | (simp; done) | (simp; omega)) | exact Ex.loadTA rfl (by first | omega | (simp; done) | (simp; omega)))) | refine GC.seq ?_ | refine GC.region ?_ | refine GC.block ?_ | refine GC.skip ?_ | refine GE.then_normal ?_)
      refine G.alloc rfl (fun xb => ?_)
      repeat (first | refine G.storeBA rfl rfl rfl rfl rfl ?_ | refine G.nil ?_ | refine GE.then_normal ?_)
      refine GC.drawA [] [.blk xb 41 (eR (s.sk.getD j default))] (by repeat (first | exact Takes.nil | apply Takes.dup rfl | apply Takes.cons | exact Take1.here | apply Take1.there)) (by kernel_rfl) ?_
      first | (apply GA.take [] (hD := .inl rfl) (hsub := ⟨_, Takes.nil⟩) (i := 0) (hi := rfl) (hs := by kernel_rfl) (hfr := by kernel_rfl) (hr := by kernel_rfl) (hQ := (by repeat (first | exact NoPanic.fpost | apply NoPanic.then_ | apply NoPanic.block))) (hd := rfl); case hx => (first | exact Ex.move rfl))
      first | (apply GA.take [] (hD := .inl rfl) (hsub := ⟨_, Takes.nil⟩) (i := 1) (hi := rfl) (hs := by kernel_rfl) (hfr := by kernel_rfl) (hr := by kernel_rfl) (hQ := (by repeat (first | exact NoPanic.fpost | apply NoPanic.then_ | apply NoPanic.block))) (hd := rfl); case hx => (first | exact Ex.fieldB rfl))
      first | (apply GA.take _ (hD := .inr ⟨rfl, by kernel_rfl⟩) (hsub := ⟨_, (by repeat (first | exact Takes.nil | apply Takes.dup rfl | apply Takes.cons | exact Take1.here | apply Take1.there))⟩) (i := 2) (hi := rfl) (hs := by kernel_rfl) (hfr := by kernel_rfl) (hr := by kernel_rfl) (hQ := (by repeat (first | exact NoPanic.fpost | apply NoPanic.then_ | apply NoPanic.block))) (hd := rfl); case hx => (first | exact Ex.loadB rfl rfl))
      first | (apply GA.take [] (hD := .inl rfl) (hsub := ⟨_, Takes.nil⟩) (i := 4) (hi := rfl) (hs := by kernel_rfl) (hfr := by kernel_rfl) (hr := by kernel_rfl) (hQ := (by repeat (first | exact NoPanic.fpost | apply NoPanic.then_ | apply NoPanic.block))) (hd := rfl); case hx => (first | exact Ex.fieldB rfl))
      first | (apply GA.take _ (hD := .inr ⟨rfl, by kernel_rfl⟩) (hsub := ⟨_, (by repeat (first | exact Takes.nil | apply Takes.dup rfl | apply Takes.cons | exact Take1.here | apply Take1.there))⟩) (i := 5) (hi := rfl) (hs := by kernel_rfl) (hfr := by kernel_rfl) (hr := by kernel_rfl) (hQ := (by repeat (first | exact NoPanic.fpost | apply NoPanic.then_ | apply NoPanic.block))) (hd := rfl); case hx => (first | exact Ex.loadB rfl rfl))
      refine GA.one (i := 3) (by kernel_rfl) rfl ?_
      first | refine G.call (caps := []) (two_sp oa (10 + 4 * j) oc (pre s ++ rg (s.sk.take j)) hlj (by omega) (s.sk.getD j default).1 hrj.1) rfl rfl rfl rfl (by repeat (first | exact Takes.nil | apply Takes.dup rfl | apply Takes.cons | exact Take1.here | apply Take1.there)) ?_ | refine G.callU (caps := []) (two_sp oa (10 + 4 * j) oc (pre s ++ rg (s.sk.take j)) hlj (by omega) (s.sk.getD j default).1 hrj.1) rfl rfl rfl (by repeat (first | exact Takes.nil | apply Takes.dup rfl | apply Takes.cons | exact Take1.here | apply Take1.there)) ?_
      rintro v_ give_ ⟨o6, c6, rfl, rfl⟩ rs_ hrs_
      simp only [List.cons_append, List.nil_append] at hrs_
      subst hrs_
      try refine G.nil ?_
      refine GA.back (by first | exact .inl (by decide) | exact .inr ⟨_, (by repeat (first | exact Takes.nil | apply Takes.dup rfl | apply Takes.cons | exact Take1.here | apply Take1.there))⟩) ?_
      refine GA.one (i := 6) (by kernel_rfl) rfl ?_
      first | refine G.call (caps := []) (two_sp o6 (10 + 4 * j + 2) c6 (pre s ++ rg (s.sk.take j) ++ w16 (s.sk.getD j default).1) (by rw [List.length_append, hlj]; rfl) (by omega) (s.sk.getD j default).2 hrj.2) rfl rfl rfl rfl (by repeat (first | exact Takes.nil | apply Takes.dup rfl | apply Takes.cons | exact Take1.here | apply Take1.there)) ?_ | refine G.callU (caps := []) (two_sp o6 (10 + 4 * j + 2) c6 (pre s ++ rg (s.sk.take j) ++ w16 (s.sk.getD j default).1) (by rw [List.length_append, hlj]; rfl) (by omega) (s.sk.getD j default).2 hrj.2) rfl rfl rfl (by repeat (first | exact Takes.nil | apply Takes.dup rfl | apply Takes.cons | exact Take1.here | apply Take1.there)) ?_
      rintro v_ give_ ⟨o7, c7, rfl, rfl⟩ rs_ hrs_
      simp only [List.cons_append, List.nil_append] at hrs_
      subst hrs_
      try refine G.nil ?_
      refine GA.back (by first | exact .inl (by decide) | exact .inr ⟨_, (by repeat (first | exact Takes.nil | apply Takes.dup rfl | apply Takes.cons | exact Take1.here | apply Take1.there))⟩) ?_
      first | (apply GA.take [] (hD := .inl rfl) (hsub := ⟨_, Takes.nil⟩) (i := 7) (hi := rfl) (hs := by kernel_rfl) (hfr := by kernel_rfl) (hr := by kernel_rfl) (hQ := (by repeat (first | exact NoPanic.fpost | apply NoPanic.then_ | apply NoPanic.block))) (hd := rfl); case hx => (first | exact Ex.assign rfl))
      refine GA.done (by kernel_rfl) ?_
      rw [hx, show 10 + 4 * j + 2 + 2 = 10 + 4 * (j + 1) by omega]
      repeat (first | (apply G.ex (hd := rfl); case h => (first | exact Ex.move rfl | exact Ex.add rfl rfl (by omega))) | refine G.nil ?_ | refine GC.region ?_ | refine GE.then_normal ?_ | refine GE.block_normal ?_)
      refine GE.loop (j + 1, o7, c7) (by simp only; omega) (by simp only; omega) (by simp only [fits]; repeat (first | exact trivial | refine And.intro rfl ?_)) (by repeat (first | exact Takes.nil | apply Takes.dup rfl | apply Takes.cons | exact Take1.here | apply Take1.there)) (by repeat (first | exact Subs.refl | refine Subs.skip ?_))
    · obtain rfl : j = s.sk.length := by omega
      rw [List.take_length]
      have hcat2 : flat eB (pre s ++ rg s.sk) ++ flat eB s.d = flat eB (body s) := (flat_append ..).symm
      have hs := sum_bd (body s)
      have hbl := body_len s
      repeat (first | (apply G.ex (hd := rfl); case h => (first | exact Ex.move rfl | exact Ex.fieldB rfl | exact Ex.loadB rfl rfl)) | refine GC.seq ?_ | refine GC.region ?_ | refine GC.exit ?_ | refine GE.then_normal ?_ | refine GE.then_exit ?_ | refine GE.block_hit ?_)
      refine G.app rfl rfl (by rfl) (by omega) rfl (hcat2) (fun o8 c8 rs_ hrs_ => ?_)
      try simp only at hrs_
      subst hrs_
      repeat (first | (apply G.ex (hd := rfl); case h => (first | exact Ex.move rfl | exact Ex.assign rfl)) | refine G.nil ?_ | refine GC.seq ?_ | refine GC.region ?_ | refine GE.then_normal ?_)
      first | refine G.call (caps := []) (inet.sum_sp (.vec 5 1 o8 (10 + 4 * s.sk.length + s.d.length) c8 (flat eB (body s))) o8 (10 + 4 * s.sk.length + s.d.length) c8 (body s) hbl (by omega)) rfl rfl rfl rfl (by repeat (first | exact Takes.nil | apply Takes.dup rfl | apply Takes.cons | exact Take1.here | apply Take1.there)) ?_ | refine G.callU (caps := []) (inet.sum_sp (.vec 5 1 o8 (10 + 4 * s.sk.length + s.d.length) c8 (flat eB (body s))) o8 (10 + 4 * s.sk.length + s.d.length) c8 (body s) hbl (by omega)) rfl rfl rfl (by repeat (first | exact Takes.nil | apply Takes.dup rfl | apply Takes.cons | exact Take1.here | apply Take1.there)) ?_
      rintro v_ give_ ⟨rfl, rfl⟩ rs_ hrs_
      simp only [List.cons_append, List.nil_append] at hrs_
      subst hrs_
      repeat (first | (apply G.ex (hd := rfl); case h => (first | exact Ex.move rfl | exact Ex.indexN rfl rfl (by first | omega | (simp; done) | (simp; omega)) | exact Ex.assign rfl | exact Ex.conv8 rfl | exact Ex.shr8 rfl rfl)) | refine G.nil ?_ | refine GC.seq ?_ | refine GC.region ?_ | refine GE.then_normal ?_)
      rw [← byteZ_toNat (sum (body s) / 256), ← byteZ_toNat (sum (body s))]
      first | refine G.storeT0 rfl rfl rfl rfl (by first | omega | (simp; omega)) rfl ((byteZ (sum (body s) / 256))) (rfl) (fun rs_ hrs_ => ?_) | refine G.storeT rfl rfl rfl rfl (by first | omega | (simp; omega)) rfl ((byteZ (sum (body s) / 256))) (rfl) (fun rs_ hrs_ => ?_) | refine G.storeTA rfl rfl (by first | omega | (simp; omega)) rfl ((byteZ (sum (body s) / 256))) (rfl) (fun rs_ hrs_ => ?_)
      try simp only at hrs_
      subst hrs_
      repeat (first | (apply G.ex (hd := rfl); case h => (first | exact Ex.indexN rfl rfl (by first | omega | (simp; done) | (simp; omega)))))
      first | refine G.storeT0 rfl rfl rfl rfl (by first | omega | (simp; omega)) rfl ((byteZ (sum (body s)))) (rfl) (fun rs_ hrs_ => ?_) | refine G.storeT rfl rfl rfl rfl (by first | omega | (simp; omega)) rfl ((byteZ (sum (body s)))) (rfl) (fun rs_ hrs_ => ?_) | refine G.storeTA rfl rfl (by first | omega | (simp; omega)) rfl ((byteZ (sum (body s)))) (rfl) (fun rs_ hrs_ => ?_)
      try simp only at hrs_
      subst hrs_
      repeat (first | (apply G.ex (hd := rfl); case h => (first | exact Ex.move rfl | exact Ex.assign rfl)) | refine G.nil ?_ | refine GC.seq ?_ | refine GC.region ?_ | refine GC.ret ?_ | refine GE.then_normal ?_)
      refine GE.ret (by first | exact .inl rfl | exact .inr rfl) (by first | exact res0 Try.results7 | exact res1 Try.results7 rfl | exact res2 Try.results7 rfl rfl | exact resR1 Try.results7 (by first | exact RV.tmp rfl | exact RV.cell rfl rfl | exact RV.cell1 rfl) | exact resR2 Try.results7 (by first | exact RV.tmp rfl | exact RV.cell rfl rfl | exact RV.cell1 rfl) (by first | exact RV.tmp rfl | exact RV.cell rfl rfl | exact RV.cell1 rfl) | exact resR3 Try.results7 (by first | exact RV.tmp rfl | exact RV.cell rfl rfl | exact RV.cell1 rfl) (by first | exact RV.tmp rfl | exact RV.cell rfl rfl | exact RV.cell1 rfl) (by first | exact RV.tmp rfl | exact RV.cell rfl rfl | exact RV.cell1 rfl)) ⟨o8, c8, rfl, rfl⟩ (by repeat (first | exact Takes.nil | apply Takes.dup rfl | apply Takes.cons | exact Take1.here | apply Take1.there)) (by repeat (first | exact Subs.refl | refine Subs.skip ?_))
end seg
end Go.Proofs.Ytfahoengenbgcaa
