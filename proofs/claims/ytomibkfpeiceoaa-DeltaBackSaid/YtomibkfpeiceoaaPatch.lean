/-
  CONTRACTS of delta.Patch and of PatchParts' closure; the law PatchParts, by the kit.
-/
import Derived.Test.YtomibkfpeiceoaaInetP
import Derived.Test.YtomibkfpeiceoaaKit14
namespace Go.Proofs.Ytomibkfpeiceoaa
open Go.RowKit
attribute [local irreducible] Ex G GC GE Gq FPost LPost
set_option linter.unusedVariables false
set_option linter.unusedSimpArgs false

namespace delta
/-- a piece -/
structure Pc where
  copy : Bool
  from_ : Int
  len : Int
  d : SlD UInt8
instance : Inhabited Pc := ⟨⟨false, 0, 0, default⟩⟩
def eC (p : Pc) : List Value := [.bool p.copy, .int .i64 p.from_, .int .i64 p.len, .slice p.d.ao p.d.n p.d.c]
instance : Enc eC 4 := ⟨fun _ => rfl, fun x u hu => by simp [eC] at hu; rcases hu with rfl | rfl | rfl | rfl <;> rfl⟩
/-- a piece that may be, of a file of so many bytes -/
structure Ok (m : Nat) (p : Pc) : Prop where
  dl : p.d.l.length = p.d.n
  cp : p.copy = true → p.d.n = 0
  nc : p.copy = false → p.from_ = 0 ∧ p.len = 0
  f0 : 0 ≤ p.from_ ∧ p.from_ ≤ m
  l0 : 0 ≤ p.len ∧ p.len ≤ m - p.from_
def pb (old : List UInt8) (p : Pc) : List UInt8 := (old.drop p.from_.toNat).take p.len.toNat ++ p.d.l
def pbs (old : List UInt8) (l : List Pc) : List UInt8 := l.flatMap (pb old)
theorem pbs_append (old : List UInt8) (l m : List Pc) : pbs old (l ++ m) = pbs old l ++ pbs old m := by simp [pbs]
theorem pbs_one (old : List UInt8) (p : Pc) : pbs old [p] = pb old p := by simp [pbs]
theorem take_snoc' {α : Type} [Inhabited α] (l : List α) (k : Nat) (h : k < l.length) : l.take (k + 1) = l.take k ++ [l.getD k default] := by
  rw [List.take_succ_eq_append_getElem h, List.getD_eq_getElem?_getD, List.getElem?_eq_getElem h]; rfl
theorem pbs_le (old : List UInt8) (l : List Pc) (k : Nat) : (pbs old (l.take k)).length ≤ (pbs old l).length := by
  conv => rhs; rw [← List.take_append_drop k l, pbs_append, List.length_append]
  omega
theorem getD_map_d (l : List Pc) (k : Nat) (h : k < l.length) : (l.map Pc.d).getD k default = (l.getD k default).d := by
  rw [List.getD_eq_getElem?_getD, List.getD_eq_getElem?_getD, List.getElem?_map, List.getElem?_eq_getElem h]; rfl
set_option maxHeartbeats 4000000 in
theorem patch_sp (ao : Option Addr) (m c : Nat) (old : List UInt8) (hold : old.length = m) (hm : m ≤ 2048) (po : Option Addr) (n pc : Nat) (l : List Pc) (hl : l.length = n) (hn : n ≤ 2048) (hok : ∀ p ∈ l, Ok m p) (htot : (pbs old l).length ≤ 2048) :
    Spec Try.prog 20 [.slice ao m c, .slice po n pc] [.sl ao m c 1 (flat eB old), .sl po n pc 4 (flat eC l), .per (Rd eB 1 (l.map Pc.d))]
      fun v give => ∃ ao' c', v = .tuple #[.slice ao' (pbs old l).length c', .int .i64 0] ∧ give = [.vec 5 1 ao' (pbs old l).length c' (flat eB (pbs old l))] := by
  refine Spec.intro Try.func20 rfl Try.ntmps20 rfl fun w0 rest rs_ hrs_ => ?_
  simp only [List.cons_append, List.nil_append] at hrs_
  subst hrs_
  repeat (first | (apply G.ex (hd := rfl); case h => (first | exact Ex.move rfl | exact Ex.gtr rfl rfl | exact Ex.lenSl rfl | exact Ex.assign rfl | exact Ex.pickF rfl (by first | assumption | omega) rfl)) | refine G.g_ff rfl rfl (by first | assumption | omega) ?_ | refine G.nil ?_ | refine GC.seq ?_ | refine GC.region ?_ | refine GC.block ?_ | refine GC.skip ?_ | refine GE.then_normal ?_ | refine GC.cond_no rfl (by first | assumption | omega) ?_)
  first | refine G.nilvec 5 1 ?_ | refine GC.nilvec 5 1 ?_
  refine GC.loop (ι := Nat × Option Addr × Nat) (fun i => i.1 ≤ n) (fun i => n - i.1) (fun i => [(0, .slice ao m c), (6, .slice i.2.1 (pbs old (l.take i.1)).length i.2.2), (17, .slice po n pc), (18, .int .i64 (n : Int)), (19, .int .i64 (i.1 : Int))]) (fun i => [.vec 5 1 i.2.1 (pbs old (l.take i.1)).length i.2.2 (flat eB (pbs old (l.take i.1))), .sl ao m c 1 (flat eB old), .sl po n pc 4 (flat eC l), .per (Rd eB 1 (l.map Pc.d))]) (0, none, 0) (Nat.zero_le _) (by simp only [fits]; repeat (first | exact trivial | refine And.intro rfl ?_)) (by repeat (first | exact Takes.nil | apply Takes.dup rfl | apply Takes.cons | exact Take1.here | apply Take1.there)) ?_
  rintro ⟨k, oa, oc⟩ hk fr_ rs_ hfr_ hrs_
  simp only [List.cons_append, List.nil_append] at hfr_ hrs_
  subst hfr_ hrs_
  simp only at hk
  repeat (first | (apply G.ex (hd := rfl); case h => (first | exact Ex.lss rfl rfl)) | refine G.nil ?_ | refine GC.seq ?_ | refine GC.region ?_ | refine GE.then_normal ?_)
  refine GC.cond_dec rfl (fun hlt => ?_) (fun hlt => ?_)
  · have hlt : k < n := by omega
    have hsn := take_snoc' l k (by omega)
    have hle := pbs_le old l (k + 1)
    have hle0 := pbs_le old l k
    have hp : Ok m (l.getD k default) := hok _ (by rw [List.getD_eq_getElem?_getD, List.getElem?_eq_getElem (by omega)]; exact List.getElem_mem _)
    refine GC.conv (fun w_ H_ => H_.rdAt (l := l.map Pc.d) (enc := eB) (s := 1) (by simp) k (by simpa [hl] using hlt)) ?_
    rw [getD_map_d l k (by omega)]
    repeat (first | (apply G.ex (hd := rfl); case h => (first | exact Ex.indexN rfl rfl (by first | omega | (simp; done) | (simp; omega)) | exact Ex.loadTA rfl (by first | omega | (simp; done) | (simp; omega)))) | refine GC.seq ?_ | refine GC.region ?_ | refine GC.block ?_ | refine GC.skip ?_ | refine GE.then_normal ?_)
    refine G.alloc rfl (fun b => ?_)
    repeat (first | refine G.storeBA rfl rfl rfl rfl rfl ?_ | (apply G.ex (hd := rfl); case h => (first | exact Ex.move rfl | exact Ex.fieldB rfl | exact Ex.loadB rfl rfl)) | refine G.nil ?_ | refine GC.seq ?_ | refine GC.region ?_ | refine GC.block ?_ | refine GE.then_normal ?_)
    rw [hsn, pbs_append, pbs_one] at hle
    have hsn2 : pbs old (l.take (k + 1)) = pbs old (l.take k) ++ pb old (l.getD k default) := by rw [hsn, pbs_append, pbs_one]
    clear hsn
    have hsz : (l.getD k default).d.n = (l.getD k default).d.l.length := hp.dl.symm
    obtain ⟨h1, h2, h3, ⟨h4, h5⟩, h6, h7⟩ := hp
    generalize hP : pbs old (l.take k) = out at *
    generalize l.getD k default = p at *
    obtain ⟨F, hF⟩ : ∃ F : Nat, p.from_ = F := ⟨p.from_.toNat, by omega⟩
    obtain ⟨L, hL⟩ : ∃ F : Nat, p.len = F := ⟨p.len.toNat, by omega⟩
    obtain ⟨cp, fo, le, ⟨da, dn, dc, dl⟩⟩ := p
    simp only at *
    subst hF hL
    simp only [eC]
    have hpb : (pb old ⟨cp, F, L, ⟨da, dn, dc, dl⟩⟩) = (old.drop F).take L ++ dl := by simp [pb]
    rw [hpb] at hsn2 hle
    have hlen1 : ((old.drop F).take L).length = L := by simp; omega
    simp only [List.length_append, hlen1] at hle
    have hlen2 : (pbs old (l.take (k + 1))).length = out.length + L + dl.length := by rw [hsn2]; simp [hlen1]; omega
    cases cp
    · obtain ⟨h31, h32⟩ := h3 rfl
      repeat (first | (apply G.ex (hd := rfl); case h => (first | exact Ex.move rfl | exact Ex.fieldB rfl | exact Ex.loadB rfl rfl | exact Ex.sub rfl rfl (by omega) | exact Ex.lss rfl rfl | exact Ex.gtr rfl rfl | exact Ex.neI rfl rfl | exact Ex.lenSl rfl | exact Ex.assign rfl | exact Ex.notB rfl | exact Ex.pickF rfl (by first | assumption | omega) rfl | exact Ex.pickLT rfl rfl | exact Ex.pickLF rfl rfl)) | refine G.g_ff rfl rfl (by first | assumption | omega) ?_ | refine G.yes rfl rfl ?_ | refine G.l_tf rfl rfl rfl ?_ | refine G.nil ?_ | refine GC.seq ?_ | refine GC.region ?_ | refine GC.skip ?_ | refine GE.then_normal ?_ | refine GE.block_normal ?_ | refine GC.cond_no rfl (by first | assumption | omega) ?_ | refine GC.cond_f rfl ?_)
      refine GC.drawA [] [.blk b _ _] (by repeat (first | exact Takes.nil | apply Takes.dup rfl | apply Takes.cons | exact Take1.here | apply Take1.there)) (by kernel_rfl) ?_
      first | (apply GA.take [] (hD := .inl rfl) (hsub := ⟨_, Takes.nil⟩) (i := 0) (hi := rfl) (hs := by kernel_rfl) (hfr := by kernel_rfl) (hr := by kernel_rfl) (hQ := (by repeat (first | exact NoPanic.fpost | apply NoPanic.then_ | apply NoPanic.block))) (hd := rfl); case hx => (first | exact Ex.move rfl))
      first | (apply GA.take [] (hD := .inl rfl) (hsub := ⟨_, Takes.nil⟩) (i := 1) (hi := rfl) (hs := by kernel_rfl) (hfr := by kernel_rfl) (hr := by kernel_rfl) (hQ := (by repeat (first | exact NoPanic.fpost | apply NoPanic.then_ | apply NoPanic.block))) (hd := rfl); case hx => (first | exact Ex.move rfl))
      first | (apply GA.take [] (hD := .inl rfl) (hsub := ⟨_, Takes.nil⟩) (i := 2) (hi := rfl) (hs := by kernel_rfl) (hfr := by kernel_rfl) (hr := by kernel_rfl) (hQ := (by repeat (first | exact NoPanic.fpost | apply NoPanic.then_ | apply NoPanic.block))) (hd := rfl); case hx => (first | exact Ex.fieldB rfl))
      first | (apply GA.take _ (hD := .inr ⟨rfl, by kernel_rfl⟩) (hsub := ⟨_, (by repeat (first | exact Takes.nil | apply Takes.dup rfl | apply Takes.cons | exact Take1.here | apply Take1.there))⟩) (i := 3) (hi := rfl) (hs := by kernel_rfl) (hfr := by kernel_rfl) (hr := by kernel_rfl) (hQ := (by repeat (first | exact NoPanic.fpost | apply NoPanic.then_ | apply NoPanic.block))) (hd := rfl); case hx => (first | exact Ex.loadB rfl rfl))
      first | (apply GA.take [] (hD := .inl rfl) (hsub := ⟨_, Takes.nil⟩) (i := 4) (hi := rfl) (hs := by kernel_rfl) (hfr := by kernel_rfl) (hr := by kernel_rfl) (hQ := (by repeat (first | exact NoPanic.fpost | apply NoPanic.then_ | apply NoPanic.block))) (hd := rfl); case hx => (first | exact Ex.fieldB rfl))
      first | (apply GA.take _ (hD := .inr ⟨rfl, by kernel_rfl⟩) (hsub := ⟨_, (by repeat (first | exact Takes.nil | apply Takes.dup rfl | apply Takes.cons | exact Take1.here | apply Take1.there))⟩) (i := 5) (hi := rfl) (hs := by kernel_rfl) (hfr := by kernel_rfl) (hr := by kernel_rfl) (hQ := (by repeat (first | exact NoPanic.fpost | apply NoPanic.then_ | apply NoPanic.block))) (hd := rfl); case hx => (first | exact Ex.loadB rfl rfl))
      first | (apply GA.take [] (hD := .inl rfl) (hsub := ⟨_, Takes.nil⟩) (i := 6) (hi := rfl) (hs := by kernel_rfl) (hfr := by kernel_rfl) (hr := by kernel_rfl) (hQ := (by repeat (first | exact NoPanic.fpost | apply NoPanic.then_ | apply NoPanic.block))) (hd := rfl); case hx => (first | exact Ex.fieldB rfl))
      first | (apply GA.take _ (hD := .inr ⟨rfl, by kernel_rfl⟩) (hsub := ⟨_, (by repeat (first | exact Takes.nil | apply Takes.dup rfl | apply Takes.cons | exact Take1.here | apply Take1.there))⟩) (i := 7) (hi := rfl) (hs := by kernel_rfl) (hfr := by kernel_rfl) (hr := by kernel_rfl) (hQ := (by repeat (first | exact NoPanic.fpost | apply NoPanic.then_ | apply NoPanic.block))) (hd := rfl); case hx => (first | exact Ex.loadB rfl rfl))
      first | (apply GA.take [] (hD := .inl rfl) (hsub := ⟨_, Takes.nil⟩) (i := 8) (hi := rfl) (hs := by kernel_rfl) (hfr := by kernel_rfl) (hr := by kernel_rfl) (hQ := (by repeat (first | exact NoPanic.fpost | apply NoPanic.then_ | apply NoPanic.block))) (hd := rfl); case hx => (first | exact Ex.add rfl rfl (by omega)))
      first | (apply GA.take [] (hD := .inl rfl) (hsub := ⟨_, Takes.nil⟩) (i := 11) (hi := rfl) (hs := by kernel_rfl) (hfr := by kernel_rfl) (hr := by kernel_rfl) (hQ := (by repeat (first | exact NoPanic.fpost | apply NoPanic.then_ | apply NoPanic.block))) (hd := rfl); case hx => (first | exact Ex.fieldB rfl))
      first | (apply GA.take _ (hD := .inr ⟨rfl, by kernel_rfl⟩) (hsub := ⟨_, (by repeat (first | exact Takes.nil | apply Takes.dup rfl | apply Takes.cons | exact Take1.here | apply Take1.there))⟩) (i := 12) (hi := rfl) (hs := by kernel_rfl) (hfr := by kernel_rfl) (hr := by kernel_rfl) (hQ := (by repeat (first | exact NoPanic.fpost | apply NoPanic.then_ | apply NoPanic.block))) (hd := rfl); case hx => (first | exact Ex.loadB rfl rfl))
      refine GA.one (i := 9) (by kernel_rfl) rfl ?_
      refine G.sub (l := F) (r := (F + L)) rfl rfl (by first | exact .inl ⟨rfl, rfl⟩ | exact .inr ⟨_, _, rfl, ev_int rfl (by omega)⟩) (by first | exact .inl ⟨rfl, rfl⟩ | exact .inr ⟨_, _, rfl, ev_int rfl (by omega)⟩) (by omega) rfl (rfl) (fun s1 => ?_)
      rw [flat_cut (enc := eB) (s := 1) inferInstance old F (F + L), show F + L - F = L by omega]
      try refine G.nil ?_
      refine GA.back (by first | exact .inl (by decide) | exact .inr ⟨_, (by repeat (first | exact Takes.nil | apply Takes.dup rfl | apply Takes.cons | exact Take1.here | apply Take1.there))⟩) ?_
      refine GA.one (i := 10) (by kernel_rfl) rfl ?_
      refine G.app rfl rfl (by rfl) (by omega) rfl ((flat_append eB out ((old.drop F).take L)).symm) (fun o1 d1 rs_ hrs_ => ?_)
      try simp only at hrs_
      subst hrs_
      try refine G.nil ?_
      refine GA.back (by first | exact .inl (by decide) | exact .inr ⟨_, (by repeat (first | exact Takes.nil | apply Takes.dup rfl | apply Takes.cons | exact Take1.here | apply Take1.there))⟩) ?_
      refine GA.one (i := 13) (by kernel_rfl) rfl ?_
      refine G.app rfl rfl (by rfl) (by omega) rfl ((flat_append eB (out ++ (old.drop F).take L) dl).symm) (fun o2 d2 rs_ hrs_ => ?_)
      try simp only at hrs_
      subst hrs_
      rw [show out ++ (old.drop F).take L ++ dl = pbs old (l.take (k + 1)) by rw [hsn2, List.append_assoc], show out.length + L + dn = (pbs old (l.take (k + 1))).length by rw [hlen2, hsz]]
      have hfin : (pbs old (l.take (k + 1))).length ≤ 2048 := by omega
      try refine G.nil ?_
      refine GA.back (by first | exact .inl (by decide) | exact .inr ⟨_, (by repeat (first | exact Takes.nil | apply Takes.dup rfl | apply Takes.cons | exact Take1.here | apply Take1.there))⟩) ?_
      first | (apply GA.take [] (hD := .inl rfl) (hsub := ⟨_, Takes.nil⟩) (i := 14) (hi := rfl) (hs := by kernel_rfl) (hfr := by kernel_rfl) (hr := by kernel_rfl) (hQ := (by repeat (first | exact NoPanic.fpost | apply NoPanic.then_ | apply NoPanic.block))) (hd := rfl); case hx => (first | exact Ex.assign rfl))
      refine GA.done (by kernel_rfl) ?_
      repeat (first | (apply G.ex (hd := rfl); case h => (first | exact Ex.move rfl | exact Ex.add rfl rfl (by omega) | exact Ex.gtr rfl rfl | exact Ex.lenSl rfl)) | refine G.nil ?_ | refine GC.seq ?_ | refine GC.region ?_ | refine GC.skip ?_ | refine GE.then_normal ?_ | refine GE.block_normal ?_ | refine GC.cond_no rfl (by first | assumption | omega) ?_)
      refine GE.loop (k + 1, o2, d2) (by simp only; omega) (by simp only; omega) (by simp only [fits]; repeat (first | exact trivial | refine And.intro rfl ?_)) (by repeat (first | exact Takes.nil | apply Takes.dup rfl | apply Takes.cons | exact Take1.here | apply Take1.there)) (by repeat (first | exact Subs.refl | refine Subs.skip ?_))
    · have h22 := h2 rfl
      repeat (first | (apply G.ex (hd := rfl); case h => (first | exact Ex.move rfl | exact Ex.fieldB rfl | exact Ex.loadB rfl rfl | exact Ex.sub rfl rfl (by omega) | exact Ex.lss rfl rfl | exact Ex.gtr rfl rfl | exact Ex.lenSl rfl | exact Ex.assign rfl | exact Ex.notB rfl | exact Ex.pickF rfl (by first | assumption | omega) rfl | exact Ex.pickLT rfl rfl | exact Ex.pickLF rfl rfl)) | refine G.g_ff rfl rfl (by first | assumption | omega) ?_ | refine G.g_un rfl rfl rfl ?_ | refine G.yes rfl rfl ?_ | refine G.l_tf rfl rfl rfl ?_ | refine G.nil ?_ | refine GC.seq ?_ | refine GC.region ?_ | refine GC.skip ?_ | refine GE.then_normal ?_ | refine GE.block_normal ?_ | refine GC.cond_no rfl (by first | assumption | omega) ?_ | refine GC.cond_f rfl ?_)
      refine GC.drawA [] [.blk b _ _] (by repeat (first | exact Takes.nil | apply Takes.dup rfl | apply Takes.cons | exact Take1.here | apply Take1.there)) (by kernel_rfl) ?_
      first | (apply GA.take [] (hD := .inl rfl) (hsub := ⟨_, Takes.nil⟩) (i := 0) (hi := rfl) (hs := by kernel_rfl) (hfr := by kernel_rfl) (hr := by kernel_rfl) (hQ := (by repeat (first | exact NoPanic.fpost | apply NoPanic.then_ | apply NoPanic.block))) (hd := rfl); case hx => (first | exact Ex.move rfl))
      first | (apply GA.take [] (hD := .inl rfl) (hsub := ⟨_, Takes.nil⟩) (i := 1) (hi := rfl) (hs := by kernel_rfl) (hfr := by kernel_rfl) (hr := by kernel_rfl) (hQ := (by repeat (first | exact NoPanic.fpost | apply NoPanic.then_ | apply NoPanic.block))) (hd := rfl); case hx => (first | exact Ex.move rfl))
      first | (apply GA.take [] (hD := .inl rfl) (hsub := ⟨_, Takes.nil⟩) (i := 2) (hi := rfl) (hs := by kernel_rfl) (hfr := by kernel_rfl) (hr := by kernel_rfl) (hQ := (by repeat (first | exact NoPanic.fpost | apply NoPanic.then_ | apply NoPanic.block))) (hd := rfl); case hx => (first | exact Ex.fieldB rfl))
      first | (apply GA.take _ (hD := .inr ⟨rfl, by kernel_rfl⟩) (hsub := ⟨_, (by repeat (first | exact Takes.nil | apply Takes.dup rfl | apply Takes.cons | exact Take1.here | apply Take1.there))⟩) (i := 3) (hi := rfl) (hs := by kernel_rfl) (hfr := by kernel_rfl) (hr := by kernel_rfl) (hQ := (by repeat (first | exact NoPanic.fpost | apply NoPanic.then_ | apply NoPanic.block))) (hd := rfl); case hx => (first | exact Ex.loadB rfl rfl))
      first | (apply GA.take [] (hD := .inl rfl) (hsub := ⟨_, Takes.nil⟩) (i := 4) (hi := rfl) (hs := by kernel_rfl) (hfr := by kernel_rfl) (hr := by kernel_rfl) (hQ := (by repeat (first | exact NoPanic.fpost | apply NoPanic.then_ | apply NoPanic.block))) (hd := rfl); case hx => (first | exact Ex.fieldB rfl))
      first | (apply GA.take _ (hD := .inr ⟨rfl, by kernel_rfl⟩) (hsub := ⟨_, (by repeat (first | exact Takes.nil | apply Takes.dup rfl | apply Takes.cons | exact Take1.here | apply Take1.there))⟩) (i := 5) (hi := rfl) (hs := by kernel_rfl) (hfr := by kernel_rfl) (hr := by kernel_rfl) (hQ := (by repeat (first | exact NoPanic.fpost | apply NoPanic.then_ | apply NoPanic.block))) (hd := rfl); case hx => (first | exact Ex.loadB rfl rfl))
      first | (apply GA.take [] (hD := .inl rfl) (hsub := ⟨_, Takes.nil⟩) (i := 6) (hi := rfl) (hs := by kernel_rfl) (hfr := by kernel_rfl) (hr := by kernel_rfl) (hQ := (by repeat (first | exact NoPanic.fpost | apply NoPanic.then_ | apply NoPanic.block))) (hd := rfl); case hx => (first | exact Ex.fieldB rfl))
      first | (apply GA.take _ (hD := .inr ⟨rfl, by kernel_rfl⟩) (hsub := ⟨_, (by repeat (first | exact Takes.nil | apply Takes.dup rfl | apply Takes.cons | exact Take1.here | apply Take1.there))⟩) (i := 7) (hi := rfl) (hs := by kernel_rfl) (hfr := by kernel_rfl) (hr := by kernel_rfl) (hQ := (by repeat (first | exact NoPanic.fpost | apply NoPanic.then_ | apply NoPanic.block))) (hd := rfl); case hx => (first | exact Ex.loadB rfl rfl))
      first | (apply GA.take [] (hD := .inl rfl) (hsub := ⟨_, Takes.nil⟩) (i := 8) (hi := rfl) (hs := by kernel_rfl) (hfr := by kernel_rfl) (hr := by kernel_rfl) (hQ := (by repeat (first | exact NoPanic.fpost | apply NoPanic.then_ | apply NoPanic.block))) (hd := rfl); case hx => (first | exact Ex.add rfl rfl (by omega)))
      first | (apply GA.take [] (hD := .inl rfl) (hsub := ⟨_, Takes.nil⟩) (i := 11) (hi := rfl) (hs := by kernel_rfl) (hfr := by kernel_rfl) (hr := by kernel_rfl) (hQ := (by repeat (first | exact NoPanic.fpost | apply NoPanic.then_ | apply NoPanic.block))) (hd := rfl); case hx => (first | exact Ex.fieldB rfl))
      first | (apply GA.take _ (hD := .inr ⟨rfl, by kernel_rfl⟩) (hsub := ⟨_, (by repeat (first | exact Takes.nil | apply Takes.dup rfl | apply Takes.cons | exact Take1.here | apply Take1.there))⟩) (i := 12) (hi := rfl) (hs := by kernel_rfl) (hfr := by kernel_rfl) (hr := by kernel_rfl) (hQ := (by repeat (first | exact NoPanic.fpost | apply NoPanic.then_ | apply NoPanic.block))) (hd := rfl); case hx => (first | exact Ex.loadB rfl rfl))
      refine GA.one (i := 9) (by kernel_rfl) rfl ?_
      refine G.sub (l := F) (r := (F + L)) rfl rfl (by first | exact .inl ⟨rfl, rfl⟩ | exact .inr ⟨_, _, rfl, ev_int rfl (by omega)⟩) (by first | exact .inl ⟨rfl, rfl⟩ | exact .inr ⟨_, _, rfl, ev_int rfl (by omega)⟩) (by omega) rfl (rfl) (fun s1 => ?_)
      rw [flat_cut (enc := eB) (s := 1) inferInstance old F (F + L), show F + L - F = L by omega]
      try refine G.nil ?_
      refine GA.back (by first | exact .inl (by decide) | exact .inr ⟨_, (by repeat (first | exact Takes.nil | apply Takes.dup rfl | apply Takes.cons | exact Take1.here | apply Take1.there))⟩) ?_
      refine GA.one (i := 10) (by kernel_rfl) rfl ?_
      refine G.app rfl rfl (by rfl) (by omega) rfl ((flat_append eB out ((old.drop F).take L)).symm) (fun o1 d1 rs_ hrs_ => ?_)
      try simp only at hrs_
      subst hrs_
      try refine G.nil ?_
      refine GA.back (by first | exact .inl (by decide) | exact .inr ⟨_, (by repeat (first | exact Takes.nil | apply Takes.dup rfl | apply Takes.cons | exact Take1.here | apply Take1.there))⟩) ?_
      refine GA.one (i := 13) (by kernel_rfl) rfl ?_
      refine G.app rfl rfl (by rfl) (by omega) rfl ((flat_append eB (out ++ (old.drop F).take L) dl).symm) (fun o2 d2 rs_ hrs_ => ?_)
      try simp only at hrs_
      subst hrs_
      rw [show out ++ (old.drop F).take L ++ dl = pbs old (l.take (k + 1)) by rw [hsn2, List.append_assoc], show out.length + L + dn = (pbs old (l.take (k + 1))).length by rw [hlen2, hsz]]
      have hfin : (pbs old (l.take (k + 1))).length ≤ 2048 := by omega
      try refine G.nil ?_
      refine GA.back (by first | exact .inl (by decide) | exact .inr ⟨_, (by repeat (first | exact Takes.nil | apply Takes.dup rfl | apply Takes.cons | exact Take1.here | apply Take1.there))⟩) ?_
      first | (apply GA.take [] (hD := .inl rfl) (hsub := ⟨_, Takes.nil⟩) (i := 14) (hi := rfl) (hs := by kernel_rfl) (hfr := by kernel_rfl) (hr := by kernel_rfl) (hQ := (by repeat (first | exact NoPanic.fpost | apply NoPanic.then_ | apply NoPanic.block))) (hd := rfl); case hx => (first | exact Ex.assign rfl))
      refine GA.done (by kernel_rfl) ?_
      repeat (first | (apply G.ex (hd := rfl); case h => (first | exact Ex.move rfl | exact Ex.add rfl rfl (by omega) | exact Ex.gtr rfl rfl | exact Ex.lenSl rfl)) | refine G.nil ?_ | refine GC.seq ?_ | refine GC.region ?_ | refine GC.skip ?_ | refine GE.then_normal ?_ | refine GE.block_normal ?_ | refine GC.cond_no rfl (by first | assumption | omega) ?_)
      refine GE.loop (k + 1, o2, d2) (by simp only; omega) (by simp only; omega) (by simp only [fits]; repeat (first | exact trivial | refine And.intro rfl ?_)) (by repeat (first | exact Takes.nil | apply Takes.dup rfl | apply Takes.cons | exact Take1.here | apply Take1.there)) (by repeat (first | exact Subs.refl | refine Subs.skip ?_))
  · obtain rfl : k = n := by omega
    have e : l.take k = l := List.take_of_length_le (by omega)
    rw [e]
    repeat (first | (apply G.ex (hd := rfl); case h => (first | exact Ex.move rfl)) | refine GC.seq ?_ | refine GC.region ?_ | refine GC.exit ?_ | refine GE.then_normal ?_ | refine GE.then_exit ?_ | refine GE.block_hit ?_)
    first | refine G.call (caps := []) (cloneB_sp (.vec 5 1 oa (pbs old l).length oc (flat eB (pbs old l))) oa (pbs old l).length oc (pbs old l) rfl (by omega)) rfl rfl rfl rfl (by repeat (first | exact Takes.nil | apply Takes.dup rfl | apply Takes.cons | exact Take1.here | apply Take1.there)) ?_ | refine G.callU (caps := []) (cloneB_sp (.vec 5 1 oa (pbs old l).length oc (flat eB (pbs old l))) oa (pbs old l).length oc (pbs old l) rfl (by omega)) rfl rfl rfl (by repeat (first | exact Takes.nil | apply Takes.dup rfl | apply Takes.cons | exact Take1.here | apply Take1.there)) ?_
    rintro v_ give_ ⟨o1, d1, rfl, rfl⟩ rs_ hrs_
    simp only [List.cons_append, List.nil_append] at hrs_
    subst hrs_
    repeat (first | (apply G.ex (hd := rfl); case h => (first | exact Ex.assign rfl)) | refine G.nil ?_ | refine GC.ret ?_ | refine GE.then_normal ?_)
    refine GE.ret (by first | exact .inl rfl | exact .inr rfl) (by first | exact res0 Try.results20 | exact res1 Try.results20 rfl | exact res2 Try.results20 rfl rfl | exact resR1 Try.results20 (by first | exact RV.tmp rfl | exact RV.cell rfl rfl | exact RV.cell1 rfl) | exact resR2 Try.results20 (by first | exact RV.tmp rfl | exact RV.cell rfl rfl | exact RV.cell1 rfl) (by first | exact RV.tmp rfl | exact RV.cell rfl rfl | exact RV.cell1 rfl) | exact resR3 Try.results20 (by first | exact RV.tmp rfl | exact RV.cell rfl rfl | exact RV.cell1 rfl) (by first | exact RV.tmp rfl | exact RV.cell rfl rfl | exact RV.cell1 rfl) (by first | exact RV.tmp rfl | exact RV.cell rfl rfl | exact RV.cell1 rfl)) ⟨_, _, rfl, rfl⟩ (by repeat (first | exact Takes.nil | apply Takes.dup rfl | apply Takes.cons | exact Take1.here | apply Take1.there)) (by repeat (first | exact Subs.refl | refine Subs.skip ?_))
/-- the closure that makes a piece -/
theorem piece_sp (z : Int) (hz : -9223372036854775808 ≤ z ∧ z ≤ 9223372036854775807) (b : Nat) (ao : Option Addr) (m c : Nat) (hm : m ≤ 200) :
    Spec Try.prog 19 [.int .i64 z, .pointer (some (badr b 0))] [.blk b 22 [.slice ao m c]]
      fun v give => ∃ p : Pc, v = .agg (eC p).toArray ∧ Ok m p ∧ p.len + p.d.n ≤ 200 ∧ give = [.sl p.d.ao p.d.n p.d.c 1 (flat eB p.d.l), .blk b 22 [.slice ao m c]] := by
  refine Spec.intro Try.func19 rfl Try.ntmps19 rfl fun w0 rest rs_ hrs_ => ?_
  simp only [List.cons_append, List.nil_append] at hrs_
  subst hrs_
  repeat (first | refine GC.seq ?_ | refine GC.region ?_)
  refine G.alloc rfl (fun r => ?_)
  repeat (first | (apply G.ex (hd := rfl); case h => (first | exact Ex.move rfl)) | refine G.nil ?_ | refine GC.seq ?_ | refine GC.region ?_ | refine GE.then_normal ?_)
  first | refine G.call (caps := []) (picked_sp z 3 (by omega) (by omega)) rfl rfl rfl rfl (by repeat (first | exact Takes.nil | apply Takes.dup rfl | apply Takes.cons | exact Take1.here | apply Take1.there)) ?_ | refine G.callU (caps := []) (picked_sp z 3 (by omega) (by omega)) rfl rfl rfl (by repeat (first | exact Takes.nil | apply Takes.dup rfl | apply Takes.cons | exact Take1.here | apply Take1.there)) ?_
  rintro v_ give_ ⟨rfl, rfl⟩ rs_ hrs_
  simp only [List.cons_append, List.nil_append] at hrs_
  subst hrs_
  repeat (first | (apply G.ex (hd := rfl); case h => (first | exact Ex.eqI rfl rfl)) | refine G.nil ?_ | refine GE.then_normal ?_)
  refine GC.cond_dec rfl (fun h => ?_) (fun h => ?_)
  · repeat (first | (apply G.ex (hd := rfl); case h => (first | exact Ex.move rfl | exact Ex.conv8 rfl)) | refine GC.seq ?_ | refine GC.region ?_)
    rw [← byteZ_toNat z]
    refine G.lit rfl (by rfl) (by rfl) (by rfl) (by rfl) (by rfl) (by rfl) rfl (fun q => ?_)
    first | refine G.frz q ?_ | refine GC.frz q ?_ | refine GE.frz q ?_
    repeat (first | refine G.storeBA rfl rfl rfl rfl rfl ?_ | (apply G.ex (hd := rfl); case h => (first | exact Ex.build rfl rfl)) | refine G.nil ?_ | refine GC.ret ?_ | refine GE.then_normal ?_ | refine GE.then_ret ?_)
    refine GE.ret (by first | exact .inl rfl | exact .inr rfl) (by first | exact res0 Try.results19 | exact res1 Try.results19 rfl | exact res2 Try.results19 rfl rfl | exact resR1 Try.results19 (by first | exact RV.tmp rfl | exact RV.cell rfl rfl | exact RV.cell1 rfl) | exact resR2 Try.results19 (by first | exact RV.tmp rfl | exact RV.cell rfl rfl | exact RV.cell1 rfl) (by first | exact RV.tmp rfl | exact RV.cell rfl rfl | exact RV.cell1 rfl) | exact resR3 Try.results19 (by first | exact RV.tmp rfl | exact RV.cell rfl rfl | exact RV.cell1 rfl) (by first | exact RV.tmp rfl | exact RV.cell rfl rfl | exact RV.cell1 rfl) (by first | exact RV.tmp rfl | exact RV.cell rfl rfl | exact RV.cell1 rfl)) ⟨⟨false, 0, 0, ⟨q, 2, 2, [byteZ z, 1]⟩⟩, rfl, ⟨rfl, fun h => by simp at h, fun _ => ⟨rfl, rfl⟩, ⟨by simp only; omega, by simp only; omega⟩, by simp only; omega, by simp only; omega⟩, by simp only; omega, rfl⟩ (by repeat (first | exact Takes.nil | apply Takes.dup rfl | apply Takes.cons | exact Take1.here | apply Take1.there)) (by repeat (first | exact Subs.refl | refine Subs.skip ?_))
  · repeat (first | (apply G.ex (hd := rfl); case h => (first | exact Ex.move rfl | exact Ex.loadB rfl rfl | exact Ex.add rfl rfl (by omega) | exact Ex.lenSl rfl | exact Ex.quotB rfl rfl (by omega))) | refine GC.seq ?_ | refine GC.region ?_ | refine GC.skip ?_ | refine GE.then_normal ?_)
    first | refine G.call (caps := []) (picked_sp (z.tdiv 3) ((m : Int) + 1) (by omega) (by omega)) rfl rfl rfl rfl (by repeat (first | exact Takes.nil | apply Takes.dup rfl | apply Takes.cons | exact Take1.here | apply Take1.there)) ?_ | refine G.callU (caps := []) (picked_sp (z.tdiv 3) ((m : Int) + 1) (by omega) (by omega)) rfl rfl rfl (by repeat (first | exact Takes.nil | apply Takes.dup rfl | apply Takes.cons | exact Take1.here | apply Take1.there)) ?_
    rintro v_ give_ ⟨rfl, rfl⟩ rs_ hrs_
    simp only [List.cons_append, List.nil_append] at hrs_
    subst hrs_
    have h1 := Int.emod_nonneg (z.tdiv 3) (show (m : Int) + 1 ≠ 0 by omega)
    have h2 := Int.emod_lt_of_pos (z.tdiv 3) (show 0 < (m : Int) + 1 by omega)
    generalize z.tdiv 3 % ((m : Int) + 1) = F at *
    repeat (first | (apply G.ex (hd := rfl); case h => (first | exact Ex.move rfl | exact Ex.loadB rfl rfl | exact Ex.add rfl rfl (by omega) | exact Ex.sub rfl rfl (by omega) | exact Ex.lenSl rfl | exact Ex.assign rfl | exact Ex.quotB rfl rfl (by omega))) | refine G.nil ?_ | refine GC.seq ?_ | refine GC.region ?_ | refine GE.then_normal ?_)
    first | refine G.call (caps := []) (picked_sp (z.tdiv 601) ((m : Int) - F + 1) (by omega) (by omega)) rfl rfl rfl rfl (by repeat (first | exact Takes.nil | apply Takes.dup rfl | apply Takes.cons | exact Take1.here | apply Take1.there)) ?_ | refine G.callU (caps := []) (picked_sp (z.tdiv 601) ((m : Int) - F + 1) (by omega) (by omega)) rfl rfl rfl (by repeat (first | exact Takes.nil | apply Takes.dup rfl | apply Takes.cons | exact Take1.here | apply Take1.there)) ?_
    rintro v_ give_ ⟨rfl, rfl⟩ rs_ hrs_
    simp only [List.cons_append, List.nil_append] at hrs_
    subst hrs_
    have h3 := Int.emod_nonneg (z.tdiv 601) (show (m : Int) - F + 1 ≠ 0 by omega)
    have h4 := Int.emod_lt_of_pos (z.tdiv 601) (show 0 < (m : Int) - F + 1 by omega)
    generalize z.tdiv 601 % ((m : Int) - F + 1) = L at *
    repeat (first | refine G.storeBA rfl rfl rfl rfl rfl ?_ | (apply G.ex (hd := rfl); case h => (first | exact Ex.build rfl rfl)) | refine G.nil ?_ | refine GC.ret ?_ | refine GE.then_normal ?_)
    refine GE.conv (fun w_ H_ => H_.nilvec 5 1) ?_
    first | refine G.frz none ?_ | refine GC.frz none ?_ | refine GE.frz none ?_
    refine GE.ret (by first | exact .inl rfl | exact .inr rfl) (by first | exact res0 Try.results19 | exact res1 Try.results19 rfl | exact res2 Try.results19 rfl rfl | exact resR1 Try.results19 (by first | exact RV.tmp rfl | exact RV.cell rfl rfl | exact RV.cell1 rfl) | exact resR2 Try.results19 (by first | exact RV.tmp rfl | exact RV.cell rfl rfl | exact RV.cell1 rfl) (by first | exact RV.tmp rfl | exact RV.cell rfl rfl | exact RV.cell1 rfl) | exact resR3 Try.results19 (by first | exact RV.tmp rfl | exact RV.cell rfl rfl | exact RV.cell1 rfl) (by first | exact RV.tmp rfl | exact RV.cell rfl rfl | exact RV.cell1 rfl) (by first | exact RV.tmp rfl | exact RV.cell rfl rfl | exact RV.cell1 rfl)) ⟨⟨true, F, L, ⟨none, 0, 0, []⟩⟩, rfl, ⟨rfl, fun _ => rfl, fun h => by simp at h, ⟨by simp only; omega, by simp only; omega⟩, by simp only; omega, by simp only; omega⟩, by simp only; omega, rfl⟩ (by repeat (first | exact Takes.nil | apply Takes.dup rfl | apply Takes.cons | exact Take1.here | apply Take1.there)) (by repeat (first | exact Subs.refl | refine Subs.skip ?_))
theorem Ok.le {m : Nat} {old : List UInt8} {p : Pc} (h : Ok m p) (hl : p.len + p.d.n ≤ 200) : (pb old p).length ≤ 200 := by
  unfold pb
  have := h.dl
  have := h.l0.1
  simp only [List.length_append, List.length_take, List.length_drop]
  omega
theorem pbs_bound (old : List UInt8) : ∀ l : List Pc, (∀ p ∈ l, (pb old p).length ≤ 200) → (pbs old l).length ≤ 200 * l.length
  | [], _ => by simp [pbs]
  | p :: t, h => by
    have h1 := pbs_bound old t (fun q hq => h q (by simp [hq]))
    have h2 := h p (by simp)
    have : pbs old (p :: t) = pb old p ++ pbs old t := rfl
    rw [this, List.length_append, List.length_cons]
    omega
/-- so many pieces, each good -/
def Good (m : Nat) (l : List Pc) : Prop := ∀ p ∈ l, Ok m p ∧ p.len + p.d.n ≤ 200
theorem Good.snoc {m : Nat} {l : List Pc} {p : Pc} (h : Good m l) (h1 : Ok m p) (h2 : p.len + p.d.n ≤ 200) : Good m (l ++ [p]) := fun q hq => by
  rcases List.mem_append.1 hq with h' | h'
  · exact h q h'
  · simp at h'; subst h'; exact ⟨h1, h2⟩
theorem Good.app {m : Nat} {l l' : List Pc} (h : Good m l) (h' : Good m l') : Good m (l ++ l') := fun q hq => (List.mem_append.1 hq).elim (h q) (h' q)
theorem Good.le {m : Nat} {l : List Pc} (h : Good m l) (old : List UInt8) : (pbs old l).length ≤ 200 * l.length := pbs_bound old l fun p hp => (h p hp).1.le (h p hp).2
theorem Good.ok {m : Nat} {l : List Pc} (h : Good m l) : ∀ p ∈ l, Ok m p := fun p hp => (h p hp).1
set_option maxHeartbeats 4000000 in
theorem patchParts_sp (a0 : Option Addr) (len0 cap0 : Nat) (z0 : List UInt8) (hl0 : z0.length = len0) (hb0 : len0 ≤ 9223372036854775807) (a1 : Option Addr) (len1 cap1 : Nat) (z1 : List Int) (hl1 : z1.length = len1) (hb1 : len1 ≤ 9223372036854775807) (hw1 : ∀ z ∈ z1, -9223372036854775808 ≤ z ∧ z ≤ 9223372036854775807) (a2 : Option Addr) (len2 cap2 : Nat) (z2 : List Int) (hl2 : z2.length = len2) (hb2 : len2 ≤ 9223372036854775807) (hw2 : ∀ z ∈ z2, -9223372036854775808 ≤ z ∧ z ≤ 9223372036854775807) :
    Spec Try.prog 4 [.slice a0 len0 cap0, .slice a1 len1 cap1, .slice a2 len2 cap2] [.sl a0 len0 cap0 1 (flat eB z0), .sl a1 len1 cap1 1 (flat (eI .i64) z1), .sl a2 len2 cap2 1 (flat (eI .i64) z2)] fun v give => v = .bool true ∧ give = [] := by
  refine Spec.intro Try.func4 rfl Try.ntmps4 rfl fun w0 rest rs_ hrs_ => ?_
  simp only [List.cons_append, List.nil_append] at hrs_
  subst hrs_
  repeat (first | (apply G.ex (hd := rfl); case h => (first | exact Ex.move rfl | exact Ex.assign rfl)) | refine G.nil ?_ | refine GC.seq ?_ | refine GC.region ?_ | refine GE.then_normal ?_)
  first | refine G.call (caps := []) (octets_sp a0 len0 cap0 z0 hl0 hb0 200 (by omega)) rfl rfl rfl rfl (by repeat (first | exact Takes.nil | apply Takes.dup rfl | apply Takes.cons | exact Take1.here | apply Take1.there)) ?_ | refine G.callU (caps := []) (octets_sp a0 len0 cap0 z0 hl0 hb0 200 (by omega)) rfl rfl rfl (by repeat (first | exact Takes.nil | apply Takes.dup rfl | apply Takes.cons | exact Take1.here | apply Take1.there)) ?_
  rintro v_ give_ ⟨b1, c1, rfl, rfl⟩ rs_ hrs_
  simp only [List.cons_append, List.nil_append] at hrs_
  subst hrs_
  have hm : min len0 200 ≤ 200 := Nat.min_le_right ..
  have hxl : (z0.take 200).length = min len0 200 := by simp; omega
  generalize min len0 200 = m at *
  generalize z0.take 200 = old at *
  first | refine G.frz b1 ?_ | refine GC.frz b1 ?_ | refine GE.frz b1 ?_
  repeat (first | fail)
  refine G.alloc rfl (fun b => ?_)
  repeat (first | refine G.storeB rfl rfl rfl rfl rfl ?_ | (apply G.ex (hd := rfl); case h => (first | exact Ex.assign rfl | exact Ex.mkFunc rfl)) | refine G.nil ?_ | refine GC.seq ?_ | refine GC.region ?_ | refine GC.block ?_ | refine GE.then_normal ?_)
  first | refine G.nilvec 32 4 ?_ | refine GC.nilvec 32 4 ?_
  refine GC.conv (fun w_ H_ => H_.rdNil eB 1) ?_
  refine GC.loop (ι := Nat × Option Addr × Nat × List delta.Pc) (fun i => i.1 ≤ 4 ∧ i.1 ≤ len1 ∧ i.2.2.2.length = i.1 ∧ delta.Good m i.2.2.2) (fun i => 4 - i.1) (fun i => [(1, .slice a1 len1 cap1), (2, .slice a2 len2 cap2), (7, .pointer (some (badr b 0))), (8, .slice i.2.1 i.1 i.2.2.1), (9, .slice none 0 0), (10, .func (.func 19) #[] [.pointer (some (badr b 0))].toArray), (11, .int .i64 (i.1 : Int))]) (fun i => [.vec 32 4 i.2.1 i.1 i.2.2.1 (flat delta.eC i.2.2.2), .per (Rd eB 1 (i.2.2.2.map delta.Pc.d)), .blk b 22 [.slice b1 m c1]]) (0, none, 0, []) ⟨by simp only; omega, by simp only; omega, rfl, fun p hp => by simp at hp⟩ (by simp only [fits]; repeat (first | exact trivial | refine And.intro rfl ?_)) (by repeat (first | exact Takes.nil | apply Takes.dup rfl | apply Takes.cons | exact Take1.here | apply Take1.there)) ?_
  rintro ⟨i, pa, pc, A⟩ ⟨hi1, hi2, hA, hG⟩ fr_ rs_ hfr_ hrs_
  simp only [List.cons_append, List.nil_append] at hfr_ hrs_
  subst hfr_ hrs_
  simp only at hi1 hi2 hA hG
  by_cases hlt : i < len1 ∧ i < 4
  · obtain ⟨hlt1, hlt2⟩ := hlt
    have hz := hw1 (z1.getD i default) (by rw [List.getD_eq_getElem?_getD, List.getElem?_eq_getElem (by omega)]; exact List.getElem_mem _)
    repeat (first | (apply G.ex (hd := rfl); case h => (first | exact Ex.move rfl | exact Ex.lss rfl rfl | exact Ex.lenSl rfl | exact Ex.indexN rfl rfl (by first | omega | (simp; done) | (simp; omega)) | exact Ex.loadT0 rfl (by first | omega | (simp; done) | (simp; omega)) rfl | exact Ex.pickT rfl (by first | assumption | omega) rfl)) | refine G.g_tt rfl rfl (by first | assumption | omega) ?_ | refine G.nil ?_ | refine GC.seq ?_ | refine GC.region ?_ | refine GC.block ?_ | refine GC.skip ?_ | refine GE.then_normal ?_ | refine GC.cond_yes rfl (by first | assumption | omega) ?_)
    first | refine G.call (delta.piece_sp (z1.getD i default) hz b b1 m c1 hm) rfl rfl rfl rfl (by repeat (first | exact Takes.nil | apply Takes.dup rfl | apply Takes.cons | exact Take1.here | apply Take1.there)) ?_ | refine G.callU (delta.piece_sp (z1.getD i default) hz b b1 m c1 hm) rfl rfl rfl (by repeat (first | exact Takes.nil | apply Takes.dup rfl | apply Takes.cons | exact Take1.here | apply Take1.there)) ?_
    rintro v_ give_ ⟨p, rfl, hp, hp2, rfl⟩ rs_ hrs_
    simp only [List.cons_append, List.nil_append] at hrs_
    subst hrs_
    first | refine G.conv (fun w_ H_ => Holds.rdSnoc (H_.take (need := [.sl p.d.ao p.d.n p.d.c 1 (flat eB p.d.l), .per (Rd eB 1 (A.map delta.Pc.d))]) (by repeat (first | exact Takes.nil | apply Takes.dup rfl | apply Takes.cons | exact Take1.here | apply Take1.there)))) ?_ | refine GC.conv (fun w_ H_ => Holds.rdSnoc (H_.take (need := [.sl p.d.ao p.d.n p.d.c 1 (flat eB p.d.l), .per (Rd eB 1 (A.map delta.Pc.d))]) (by repeat (first | exact Takes.nil | apply Takes.dup rfl | apply Takes.cons | exact Take1.here | apply Take1.there)))) ?_ | refine GE.conv (fun w_ H_ => Holds.rdSnoc (H_.take (need := [.sl p.d.ao p.d.n p.d.c 1 (flat eB p.d.l), .per (Rd eB 1 (A.map delta.Pc.d))]) (by repeat (first | exact Takes.nil | apply Takes.dup rfl | apply Takes.cons | exact Take1.here | apply Take1.there)))) ?_
    try simp only [List.append_eq, List.nil_append, List.cons_append]
    rw [show A.map delta.Pc.d ++ [p.d] = (A ++ [p]).map delta.Pc.d by simp]
    repeat (first | fail)
    refine G.lit rfl (by rfl) (by rfl) (by rfl) (by rfl) (by rfl) (by rfl) rfl (fun q => ?_)
    have hcat : flat delta.eC A ++ delta.eC p = flat delta.eC (A ++ [p]) := flat_snoc ..
    refine G.app rfl rfl (by rfl) (by omega) rfl (hcat) (fun p2 pc2 rs_ hrs_ => ?_)
    try simp only at hrs_
    subst hrs_
    refine G.drop ?_
    repeat (first | (apply G.ex (hd := rfl); case h => (first | exact Ex.move rfl | exact Ex.add rfl rfl (by omega) | exact Ex.assign rfl)) | refine G.nil ?_ | refine GC.region ?_ | refine GE.then_normal ?_ | refine GE.block_normal ?_)
    refine GE.loop (i + 1, p2, pc2, A ++ [p]) ⟨by simp only; omega, by simp only; omega, by simp [hA], hG.snoc hp hp2⟩ (by simp only; omega) (by simp only [fits]; repeat (first | exact trivial | refine And.intro rfl ?_)) (by repeat (first | exact Takes.nil | apply Takes.dup rfl | apply Takes.cons | exact Take1.here | apply Take1.there)) (by repeat (first | exact Subs.refl | refine Subs.skip ?_))
  · have hend : ¬ i < len1 ∨ ¬ i < 4 := by omega
    clear hi2
    by_cases hlt1 : i < len1
    case' pos => have hlt2 : ¬ i < 4 := fun k => hlt ⟨hlt1, k⟩
    all_goals
      clear hlt hend
      repeat (first | (apply G.ex (hd := rfl); case h => (first | exact Ex.move rfl | exact Ex.lss rfl rfl | exact Ex.lenSl rfl | exact Ex.assign rfl | exact Ex.pickT rfl (by first | assumption | omega) rfl | exact Ex.pickF rfl (by first | assumption | omega) rfl)) | refine G.g_tt rfl rfl (by first | assumption | omega) ?_ | refine G.g_tf rfl rfl (by first | assumption | omega) rfl ?_ | refine G.nil ?_ | refine GC.seq ?_ | refine GC.region ?_ | refine GC.block ?_ | refine GC.exit ?_ | refine GE.then_normal ?_ | refine GE.then_exit ?_ | refine GE.block_hit ?_ | refine GC.cond_no rfl (by first | assumption | omega) ?_ | refine GC.cond_f rfl ?_)
      first | refine G.nilvec 32 4 ?_ | refine GC.nilvec 32 4 ?_
      refine GC.conv (fun w_ H_ => H_.rdNil eB 1) ?_
      refine GC.loop (ι := Nat × Option Addr × Nat × List delta.Pc) (fun j => j.1 ≤ 4 ∧ j.1 ≤ len2 ∧ j.2.2.2.length = j.1 ∧ delta.Good m j.2.2.2) (fun j => 4 - j.1) (fun j => [(2, .slice a2 len2 cap2), (7, .pointer (some (badr b 0))), (8, .slice pa i pc), (9, .slice j.2.1 j.1 j.2.2.1), (10, .func (.func 19) #[] [.pointer (some (badr b 0))].toArray), (12, .int .i64 (j.1 : Int))]) (fun j => [.vec 32 4 j.2.1 j.1 j.2.2.1 (flat delta.eC j.2.2.2), .per (Rd eB 1 (j.2.2.2.map delta.Pc.d)), .blk b 22 [.slice b1 m c1], .vec 32 4 pa i pc (flat delta.eC A), .per (Rd eB 1 (A.map delta.Pc.d))]) (0, none, 0, []) ⟨by simp only; omega, by simp only; omega, rfl, fun p hp => by simp at hp⟩ (by simp only [fits]; repeat (first | exact trivial | refine And.intro rfl ?_)) (by repeat (first | exact Takes.nil | apply Takes.dup rfl | apply Takes.cons | exact Take1.here | apply Take1.there)) ?_
      rintro ⟨j, qa, qc, B⟩ ⟨hj1, hj2, hB, hH⟩ fr_ rs_ hfr_ hrs_
      simp only [List.cons_append, List.nil_append] at hfr_ hrs_
      subst hfr_ hrs_
      simp only at hj1 hj2 hB hH
      by_cases hjt : j < len2 ∧ j < 4
      · obtain ⟨hjt1, hjt2⟩ := hjt
        have hz := hw2 (z2.getD j default) (by rw [List.getD_eq_getElem?_getD, List.getElem?_eq_getElem (by omega)]; exact List.getElem_mem _)
        repeat (first | (apply G.ex (hd := rfl); case h => (first | exact Ex.move rfl | exact Ex.lss rfl rfl | exact Ex.lenSl rfl | exact Ex.indexN rfl rfl (by first | omega | (simp; done) | (simp; omega)) | exact Ex.loadT0 rfl (by first | omega | (simp; done) | (simp; omega)) rfl | exact Ex.pickT rfl (by first | assumption | omega) rfl)) | refine G.g_tt rfl rfl (by first | assumption | omega) ?_ | refine G.nil ?_ | refine GC.seq ?_ | refine GC.region ?_ | refine GC.block ?_ | refine GC.skip ?_ | refine GE.then_normal ?_ | refine GC.cond_yes rfl (by first | assumption | omega) ?_)
        first | refine G.call (delta.piece_sp (z2.getD j default) hz b b1 m c1 hm) rfl rfl rfl rfl (by repeat (first | exact Takes.nil | apply Takes.dup rfl | apply Takes.cons | exact Take1.here | apply Take1.there)) ?_ | refine G.callU (delta.piece_sp (z2.getD j default) hz b b1 m c1 hm) rfl rfl rfl (by repeat (first | exact Takes.nil | apply Takes.dup rfl | apply Takes.cons | exact Take1.here | apply Take1.there)) ?_
        rintro v_ give_ ⟨p, rfl, hp, hp2, rfl⟩ rs_ hrs_
        simp only [List.cons_append, List.nil_append] at hrs_
        subst hrs_
        first | refine G.conv (fun w_ H_ => Holds.rdSnoc (H_.take (need := [.sl p.d.ao p.d.n p.d.c 1 (flat eB p.d.l), .per (Rd eB 1 (B.map delta.Pc.d))]) (by repeat (first | exact Takes.nil | apply Takes.dup rfl | apply Takes.cons | exact Take1.here | apply Take1.there)))) ?_ | refine GC.conv (fun w_ H_ => Holds.rdSnoc (H_.take (need := [.sl p.d.ao p.d.n p.d.c 1 (flat eB p.d.l), .per (Rd eB 1 (B.map delta.Pc.d))]) (by repeat (first | exact Takes.nil | apply Takes.dup rfl | apply Takes.cons | exact Take1.here | apply Take1.there)))) ?_ | refine GE.conv (fun w_ H_ => Holds.rdSnoc (H_.take (need := [.sl p.d.ao p.d.n p.d.c 1 (flat eB p.d.l), .per (Rd eB 1 (B.map delta.Pc.d))]) (by repeat (first | exact Takes.nil | apply Takes.dup rfl | apply Takes.cons | exact Take1.here | apply Take1.there)))) ?_
        try simp only [List.append_eq, List.nil_append, List.cons_append]
        rw [show B.map delta.Pc.d ++ [p.d] = (B ++ [p]).map delta.Pc.d by simp]
        repeat (first | fail)
        refine G.lit rfl (by rfl) (by rfl) (by rfl) (by rfl) (by rfl) (by rfl) rfl (fun q => ?_)
        have hcat : flat delta.eC B ++ delta.eC p = flat delta.eC (B ++ [p]) := flat_snoc ..
        refine G.app rfl rfl (by rfl) (by omega) rfl (hcat) (fun p2 pc2 rs_ hrs_ => ?_)
        try simp only at hrs_
        subst hrs_
        refine G.drop ?_
        repeat (first | (apply G.ex (hd := rfl); case h => (first | exact Ex.move rfl | exact Ex.add rfl rfl (by omega) | exact Ex.assign rfl)) | refine G.nil ?_ | refine GC.region ?_ | refine GE.then_normal ?_ | refine GE.block_normal ?_)
        refine GE.loop (j + 1, p2, pc2, B ++ [p]) ⟨by simp only; omega, by simp only; omega, by simp [hB], hH.snoc hp hp2⟩ (by simp only; omega) (by simp only [fits]; repeat (first | exact trivial | refine And.intro rfl ?_)) (by repeat (first | exact Takes.nil | apply Takes.dup rfl | apply Takes.cons | exact Take1.here | apply Take1.there)) (by repeat (first | exact Subs.refl | refine Subs.skip ?_))
      · have hend : ¬ j < len2 ∨ ¬ j < 4 := by omega
        by_cases hjt1 : j < len2
        case' pos => have hjt2 : ¬ j < 4 := fun k => hjt ⟨hjt1, k⟩
        all_goals
          clear hjt hend
          have hAl := hG.le old
          have hBl := hH.le old
          have hABl := (hG.app hH).le old
          rw [List.length_append] at hABl
          repeat (first | (apply G.ex (hd := rfl); case h => (first | exact Ex.move rfl | exact Ex.loadB rfl rfl | exact Ex.lss rfl rfl | exact Ex.lenSl rfl | exact Ex.pickT rfl (by first | assumption | omega) rfl | exact Ex.pickF rfl (by first | assumption | omega) rfl)) | refine G.g_tt rfl rfl (by first | assumption | omega) ?_ | refine G.g_tf rfl rfl (by first | assumption | omega) rfl ?_ | refine G.nil ?_ | refine GC.seq ?_ | refine GC.region ?_ | refine GC.exit ?_ | refine GE.then_normal ?_ | refine GE.then_exit ?_ | refine GE.block_hit ?_ | refine GC.cond_no rfl (by first | assumption | omega) ?_ | refine GC.cond_f rfl ?_)
          first | refine G.frz pa ?_ | refine GC.frz pa ?_ | refine GE.frz pa ?_
          first | refine G.call (caps := []) (delta.patch_sp b1 m c1 old hxl (by omega) pa i pc A hA (by omega) hG.ok (by omega)) rfl rfl rfl rfl (by repeat (first | exact Takes.nil | apply Takes.dup rfl | apply Takes.cons | exact Take1.here | apply Take1.there)) ?_ | refine G.callU (caps := []) (delta.patch_sp b1 m c1 old hxl (by omega) pa i pc A hA (by omega) hG.ok (by omega)) rfl rfl rfl (by repeat (first | exact Takes.nil | apply Takes.dup rfl | apply Takes.cons | exact Take1.here | apply Take1.there)) ?_
          rintro v_ give_ ⟨xa, xc, rfl, rfl⟩ rs_ hrs_
          simp only [List.cons_append, List.nil_append] at hrs_
          subst hrs_
          repeat (first | (apply G.ex (hd := rfl); case h => (first | exact Ex.move rfl | exact Ex.loadB rfl rfl | exact Ex.extract rfl rfl | exact Ex.assign rfl)) | refine G.nil ?_ | refine GC.seq ?_ | refine GC.region ?_ | refine GE.then_normal ?_)
          first | refine G.frz qa ?_ | refine GC.frz qa ?_ | refine GE.frz qa ?_
          first | refine G.call (caps := []) (delta.patch_sp b1 m c1 old hxl (by omega) qa j qc B hB (by omega) hH.ok (by omega)) rfl rfl rfl rfl (by repeat (first | exact Takes.nil | apply Takes.dup rfl | apply Takes.cons | exact Take1.here | apply Take1.there)) ?_ | refine G.callU (caps := []) (delta.patch_sp b1 m c1 old hxl (by omega) qa j qc B hB (by omega) hH.ok (by omega)) rfl rfl rfl (by repeat (first | exact Takes.nil | apply Takes.dup rfl | apply Takes.cons | exact Take1.here | apply Take1.there)) ?_
          rintro v_ give_ ⟨ya, yc, rfl, rfl⟩ rs_ hrs_
          simp only [List.cons_append, List.nil_append] at hrs_
          subst hrs_
          first | refine G.conv (fun w_ H_ => Holds.rdApp (H_.take (need := [.per (Rd eB 1 (A.map delta.Pc.d)), .per (Rd eB 1 (B.map delta.Pc.d))]) (by repeat (first | exact Takes.nil | apply Takes.dup rfl | apply Takes.cons | exact Take1.here | apply Take1.there)))) ?_ | refine GC.conv (fun w_ H_ => Holds.rdApp (H_.take (need := [.per (Rd eB 1 (A.map delta.Pc.d)), .per (Rd eB 1 (B.map delta.Pc.d))]) (by repeat (first | exact Takes.nil | apply Takes.dup rfl | apply Takes.cons | exact Take1.here | apply Take1.there)))) ?_ | refine GE.conv (fun w_ H_ => Holds.rdApp (H_.take (need := [.per (Rd eB 1 (A.map delta.Pc.d)), .per (Rd eB 1 (B.map delta.Pc.d))]) (by repeat (first | exact Takes.nil | apply Takes.dup rfl | apply Takes.cons | exact Take1.here | apply Take1.there)))) ?_
          try simp only [List.append_eq, List.nil_append, List.cons_append]
          rw [← List.map_append]
          repeat (first | (apply G.ex (hd := rfl); case h => (first | exact Ex.move rfl | exact Ex.extract rfl rfl | exact Ex.assign rfl)) | refine G.nil ?_ | refine GC.seq ?_ | refine GE.then_normal ?_)
          have hcat : flat delta.eC A ++ flat delta.eC B = flat delta.eC (A ++ B) := (flat_append ..).symm
          refine GC.drawA [] [.blk b _ _] (by repeat (first | exact Takes.nil | apply Takes.dup rfl | apply Takes.cons | exact Take1.here | apply Take1.there)) (by kernel_rfl) ?_
          first | (apply GA.take _ (hD := .inr ⟨rfl, by kernel_rfl⟩) (hsub := ⟨_, (by repeat (first | exact Takes.nil | apply Takes.dup rfl | apply Takes.cons | exact Take1.here | apply Take1.there))⟩) (i := 0) (hi := rfl) (hs := by kernel_rfl) (hfr := by kernel_rfl) (hr := by kernel_rfl) (hQ := (by repeat (first | exact NoPanic.fpost | apply NoPanic.then_ | apply NoPanic.block))) (hd := rfl); case hx => (first | exact Ex.loadB rfl rfl))
          first | (apply GA.take [] (hD := .inl rfl) (hsub := ⟨_, Takes.nil⟩) (i := 1) (hi := rfl) (hs := by kernel_rfl) (hfr := by kernel_rfl) (hr := by kernel_rfl) (hQ := (by repeat (first | exact NoPanic.fpost | apply NoPanic.then_ | apply NoPanic.block))) (hd := rfl); case hx => (first | exact Ex.move rfl))
          first | (apply GA.take [] (hD := .inl rfl) (hsub := ⟨_, Takes.nil⟩) (i := 3) (hi := rfl) (hs := by kernel_rfl) (hfr := by kernel_rfl) (hr := by kernel_rfl) (hQ := (by repeat (first | exact NoPanic.fpost | apply NoPanic.then_ | apply NoPanic.block))) (hd := rfl); case hx => (first | exact Ex.move rfl))
          refine GA.one (i := 2) (by kernel_rfl) rfl ?_
          refine G.appNil rfl rfl (by rfl) (by omega) rfl (rfl) (fun z1 e1 => ?_)
          try refine G.nil ?_
          refine GA.back (by first | exact .inl (by decide) | exact .inr ⟨_, (by repeat (first | exact Takes.nil | apply Takes.dup rfl | apply Takes.cons | exact Take1.here | apply Take1.there))⟩) ?_
          refine GA.one (i := 4) (by kernel_rfl) rfl ?_
          refine G.app rfl rfl (by rfl) (by omega) rfl (hcat) (fun z2 e2 rs_ hrs_ => ?_)
          try simp only at hrs_
          subst hrs_
          try refine G.nil ?_
          refine GA.back (by first | exact .inl (by decide) | exact .inr ⟨_, (by repeat (first | exact Takes.nil | apply Takes.dup rfl | apply Takes.cons | exact Take1.here | apply Take1.there))⟩) ?_
          refine GA.one (i := 5) (by kernel_rfl) rfl ?_
          first | refine G.frz z2 ?_ | refine GC.frz z2 ?_ | refine GE.frz z2 ?_
          first | refine G.call (caps := []) (delta.patch_sp b1 m c1 old hxl (by omega) z2 (i + j) e2 (A ++ B) (by rw [List.length_append]; omega) (by omega) (hG.app hH).ok (by omega)) rfl rfl rfl rfl (by repeat (first | exact Takes.nil | apply Takes.dup rfl | apply Takes.cons | exact Take1.here | apply Take1.there)) ?_ | refine G.callU (caps := []) (delta.patch_sp b1 m c1 old hxl (by omega) z2 (i + j) e2 (A ++ B) (by rw [List.length_append]; omega) (by omega) (hG.app hH).ok (by omega)) rfl rfl rfl (by repeat (first | exact Takes.nil | apply Takes.dup rfl | apply Takes.cons | exact Take1.here | apply Take1.there)) ?_
          rintro v_ give_ ⟨za, zc, rfl, rfl⟩ rs_ hrs_
          simp only [List.cons_append, List.nil_append] at hrs_
          subst hrs_
          try refine G.nil ?_
          refine GA.back (by first | exact .inl (by decide) | exact .inr ⟨_, (by repeat (first | exact Takes.nil | apply Takes.dup rfl | apply Takes.cons | exact Take1.here | apply Take1.there))⟩) ?_
          first | (apply GA.take [] (hD := .inl rfl) (hsub := ⟨_, Takes.nil⟩) (i := 6) (hi := rfl) (hs := by kernel_rfl) (hfr := by kernel_rfl) (hr := by kernel_rfl) (hQ := (by repeat (first | exact NoPanic.fpost | apply NoPanic.then_ | apply NoPanic.block))) (hd := rfl); case hx => (first | exact Ex.move rfl))
          first | (apply GA.take [] (hD := .inl rfl) (hsub := ⟨_, Takes.nil⟩) (i := 7) (hi := rfl) (hs := by kernel_rfl) (hfr := by kernel_rfl) (hr := by kernel_rfl) (hQ := (by repeat (first | exact NoPanic.fpost | apply NoPanic.then_ | apply NoPanic.block))) (hd := rfl); case hx => (first | exact Ex.extract rfl rfl))
          first | (apply GA.take [] (hD := .inl rfl) (hsub := ⟨_, Takes.nil⟩) (i := 8) (hi := rfl) (hs := by kernel_rfl) (hfr := by kernel_rfl) (hr := by kernel_rfl) (hQ := (by repeat (first | exact NoPanic.fpost | apply NoPanic.then_ | apply NoPanic.block))) (hd := rfl); case hx => (first | exact Ex.extract rfl rfl))
          first | (apply GA.take [] (hD := .inl rfl) (hsub := ⟨_, Takes.nil⟩) (i := 9) (hi := rfl) (hs := by kernel_rfl) (hfr := by kernel_rfl) (hr := by kernel_rfl) (hQ := (by repeat (first | exact NoPanic.fpost | apply NoPanic.then_ | apply NoPanic.block))) (hd := rfl); case hx => (first | exact Ex.assign rfl))
          first | (apply GA.take [] (hD := .inl rfl) (hsub := ⟨_, Takes.nil⟩) (i := 10) (hi := rfl) (hs := by kernel_rfl) (hfr := by kernel_rfl) (hr := by kernel_rfl) (hQ := (by repeat (first | exact NoPanic.fpost | apply NoPanic.then_ | apply NoPanic.block))) (hd := rfl); case hx => (first | exact Ex.assign rfl))
          refine GA.done (by kernel_rfl) ?_
          repeat (first | refine GC.seq ?_ | refine GC.region ?_ | refine GE.then_normal ?_)
          refine G.lit rfl (by rfl) (by rfl) (by rfl) (by rfl) (by rfl) (by rfl) rfl (fun q7 => ?_)
          repeat (first | (apply G.ex (hd := rfl); case h => (first | exact Ex.build rfl rfl)))
          refine G.lit rfl (by rfl) (by rfl) (by rfl) (by rfl) (by rfl) (by rfl) rfl (fun qp => ?_)
          first | refine G.frz q7 ?_ | refine GC.frz q7 ?_ | refine GE.frz q7 ?_
          first | refine G.frz qp ?_ | refine GC.frz qp ?_ | refine GE.frz qp ?_
          first | refine G.nilvec 5 1 ?_ | refine GC.nilvec 5 1 ?_
          first | refine G.frz none ?_ | refine GC.frz none ?_ | refine GE.frz none ?_
          refine G.conv (fun w_ H_ => H_.rdNil eB 1) ?_
          first | refine G.conv (fun w_ H_ => Holds.rdSnoc (x := ⟨none, 0, 0, []⟩) (H_.take (need := [.sl none 0 0 1 (flat eB []), .per (Rd eB 1 [])]) (by repeat (first | exact Takes.nil | apply Takes.dup rfl | apply Takes.cons | exact Take1.here | apply Take1.there)))) ?_ | refine GC.conv (fun w_ H_ => Holds.rdSnoc (x := ⟨none, 0, 0, []⟩) (H_.take (need := [.sl none 0 0 1 (flat eB []), .per (Rd eB 1 [])]) (by repeat (first | exact Takes.nil | apply Takes.dup rfl | apply Takes.cons | exact Take1.here | apply Take1.there)))) ?_ | refine GE.conv (fun w_ H_ => Holds.rdSnoc (x := ⟨none, 0, 0, []⟩) (H_.take (need := [.sl none 0 0 1 (flat eB []), .per (Rd eB 1 [])]) (by repeat (first | exact Takes.nil | apply Takes.dup rfl | apply Takes.cons | exact Take1.here | apply Take1.there)))) ?_
          try simp only [List.append_eq, List.nil_append, List.cons_append]
          have h71 : delta.pbs [7] [⟨true, 0, 1, ⟨none, 0, 0, []⟩⟩] = [7] := by decide
          first | refine G.call (caps := []) (delta.patch_sp q7 1 1 [7] rfl (by omega) qp 1 1 [⟨true, 0, 1, ⟨none, 0, 0, []⟩⟩] rfl (by omega) (by intro p hp; simp at hp; subst hp; exact ⟨rfl, fun _ => rfl, fun h => (by cases h), ⟨by decide, by decide⟩, by decide, by decide⟩) (by rw [h71]; decide)) rfl rfl rfl rfl (by repeat (first | exact Takes.nil | apply Takes.dup rfl | apply Takes.cons | exact Take1.here | apply Take1.there)) ?_ | refine G.callU (caps := []) (delta.patch_sp q7 1 1 [7] rfl (by omega) qp 1 1 [⟨true, 0, 1, ⟨none, 0, 0, []⟩⟩] rfl (by omega) (by intro p hp; simp at hp; subst hp; exact ⟨rfl, fun _ => rfl, fun h => (by cases h), ⟨by decide, by decide⟩, by decide, by decide⟩) (by rw [h71]; decide)) rfl rfl rfl (by repeat (first | exact Takes.nil | apply Takes.dup rfl | apply Takes.cons | exact Take1.here | apply Take1.there)) ?_
          rintro v_ give_ ⟨oa, oc, rfl, rfl⟩ rs_ hrs_
          simp only [List.cons_append, List.nil_append] at hrs_
          subst hrs_
          rw [h71]
          repeat (first | (apply G.ex (hd := rfl); case h => (first | exact Ex.move rfl | exact Ex.eqI rfl rfl | exact Ex.extract rfl rfl | exact Ex.assign rfl | exact Ex.pickT rfl (by first | assumption | omega) rfl)) | refine G.g_tt rfl rfl (by first | assumption | omega) ?_ | refine G.nil ?_ | refine GC.seq ?_ | refine GC.region ?_ | refine GE.then_normal ?_)
          refine G.lit rfl (by rfl) (by rfl) (by rfl) (by rfl) (by rfl) (by rfl) rfl (fun q8 => ?_)
          repeat (first | refine G.g_tt rfl rfl (by first | assumption | omega) ?_)
          first | refine G.call (caps := []) (sameBytes_sp (.vec 5 1 oa 1 oc (flat eB [7])) (.vec 5 1 q8 1 1 (flat eB [7])) oa q8 1 oc 1 1 [7] [7] rfl rfl (by omega) (by omega)) rfl rfl rfl rfl (by repeat (first | exact Takes.nil | apply Takes.dup rfl | apply Takes.cons | exact Take1.here | apply Take1.there)) ?_ | refine G.callU (caps := []) (sameBytes_sp (.vec 5 1 oa 1 oc (flat eB [7])) (.vec 5 1 q8 1 1 (flat eB [7])) oa q8 1 oc 1 1 [7] [7] rfl rfl (by omega) (by omega)) rfl rfl rfl (by repeat (first | exact Takes.nil | apply Takes.dup rfl | apply Takes.cons | exact Take1.here | apply Take1.there)) ?_
          rintro v_ give_ ⟨rfl, rfl⟩ rs_ hrs_
          simp only [List.cons_append, List.nil_append] at hrs_
          subst hrs_
          rw [decide_eq_true (rfl : ([7] : List UInt8) = [7])]
          repeat (first | (apply G.ex (hd := rfl); case h => (first | exact Ex.move rfl | exact Ex.pickT rfl (by first | assumption | omega) rfl)) | refine G.g_tt rfl rfl (by first | assumption | omega) ?_)
          refine G.appNil rfl rfl (by rfl) (by omega) rfl (rfl) (fun x2 f2 => ?_)
          repeat (first | (apply G.ex (hd := rfl); case h => (first | exact Ex.move rfl)) | refine G.g_tt rfl rfl (by first | assumption | omega) ?_)
          have hcat2 : flat eB (delta.pbs old A) ++ flat eB (delta.pbs old B) = flat eB (delta.pbs old A ++ delta.pbs old B) := (flat_append ..).symm
          refine G.app rfl rfl (by rfl) (by omega) rfl (hcat2) (fun x3 f3 rs_ hrs_ => ?_)
          try simp only at hrs_
          subst hrs_
          repeat (first | refine G.yes rfl rfl ?_)
          first | refine G.call (caps := []) (sameBytes_sp (.vec 5 1 za (delta.pbs old (A ++ B)).length zc (flat eB (delta.pbs old (A ++ B)))) (.vec 5 1 x3 ((delta.pbs old A).length + (delta.pbs old B).length) f3 (flat eB (delta.pbs old A ++ delta.pbs old B))) za x3 (delta.pbs old (A ++ B)).length zc ((delta.pbs old A).length + (delta.pbs old B).length) f3 (delta.pbs old (A ++ B)) (delta.pbs old A ++ delta.pbs old B) rfl List.length_append (by omega) (by omega)) rfl rfl rfl rfl (by repeat (first | exact Takes.nil | apply Takes.dup rfl | apply Takes.cons | exact Take1.here | apply Take1.there)) ?_ | refine G.callU (caps := []) (sameBytes_sp (.vec 5 1 za (delta.pbs old (A ++ B)).length zc (flat eB (delta.pbs old (A ++ B)))) (.vec 5 1 x3 ((delta.pbs old A).length + (delta.pbs old B).length) f3 (flat eB (delta.pbs old A ++ delta.pbs old B))) za x3 (delta.pbs old (A ++ B)).length zc ((delta.pbs old A).length + (delta.pbs old B).length) f3 (delta.pbs old (A ++ B)) (delta.pbs old A ++ delta.pbs old B) rfl List.length_append (by omega) (by omega)) rfl rfl rfl (by repeat (first | exact Takes.nil | apply Takes.dup rfl | apply Takes.cons | exact Take1.here | apply Take1.there)) ?_
          rintro v_ give_ ⟨rfl, rfl⟩ rs_ hrs_
          simp only [List.cons_append, List.nil_append] at hrs_
          subst hrs_
          repeat (first | (apply G.ex (hd := rfl); case h => (first | exact Ex.assign rfl | exact Ex.pickLT rfl rfl)) | refine G.nil ?_ | refine GC.ret ?_ | refine GE.then_normal ?_)
          refine GE.ret (by first | exact .inl rfl | exact .inr rfl) (by first | exact res0 Try.results4 | exact res1 Try.results4 rfl | exact res2 Try.results4 rfl rfl | exact resR1 Try.results4 (by first | exact RV.tmp rfl | exact RV.cell rfl rfl | exact RV.cell1 rfl) | exact resR2 Try.results4 (by first | exact RV.tmp rfl | exact RV.cell rfl rfl | exact RV.cell1 rfl) (by first | exact RV.tmp rfl | exact RV.cell rfl rfl | exact RV.cell1 rfl) | exact resR3 Try.results4 (by first | exact RV.tmp rfl | exact RV.cell rfl rfl | exact RV.cell1 rfl) (by first | exact RV.tmp rfl | exact RV.cell rfl rfl | exact RV.cell1 rfl) (by first | exact RV.tmp rfl | exact RV.cell rfl rfl | exact RV.cell1 rfl)) ⟨congrArg Value.bool (decide_eq_true (delta.pbs_append ..)), rfl⟩ (by repeat (first | exact Takes.nil | apply Takes.dup rfl | apply Takes.cons | exact Take1.here | apply Take1.there)) (by repeat (first | exact Subs.refl | refine Subs.skip ?_))
end delta
end Go.Proofs.Ytomibkfpeiceoaa
