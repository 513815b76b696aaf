/-
  CONTRACTS of who hears: New and Play, by the kit.
-/
import Derived.Test.YtkinpmbokkfpbaaRecvE
namespace Go.Proofs.Ytkinpmbokkfpbaa
open Go.RowKit
attribute [local irreducible] Ex G GC GE Gq FPost LPost
set_option linter.unusedVariables false
set_option linter.unusedSimpArgs false
namespace recv
open hole
theorem new_sp (room : Int) : Spec Try.prog 10 [.int .i64 room] [] fun v give => ∃ hb, v = .pointer (some (badr hb 0)) ∧ give = [.blk hb 59 [.int .i64 room, .slice none 0 0, .int .i64 0, .slice none 0 0, .int .i64 0, .int .i64 (-1)]] := by
  refine Spec.intro Try.func10 rfl Try.ntmps10 rfl fun w0 rest rs_ hrs_ => ?_
  simp only [List.cons_append, List.nil_append] at hrs_
  subst hrs_
  repeat (first | (apply G.ex (hd := rfl); case h => (first | exact Ex.move rfl | exact Ex.assign rfl | exact Ex.build rfl rfl)) | refine G.nil ?_ | refine GC.seq ?_ | refine GC.region ?_ | refine GE.then_normal ?_)
  refine G.box rfl rfl rfl (fun hb => ?_)
  repeat (first | (apply G.ex (hd := rfl); case h => (first | exact Ex.assign rfl)) | refine G.nil ?_ | refine GC.ret ?_ | refine GE.then_normal ?_)
  refine GE.ret (by first | exact .inl rfl | exact .inr rfl) (by first | exact res0 Try.results10 | exact res1 Try.results10 rfl | exact res2 Try.results10 rfl rfl | exact resR1 Try.results10 (by first | exact RV.tmp rfl | exact RV.cell rfl (eP_len _) | exact RV.cell rfl rfl | exact RV.cell1 rfl) | exact resR2 Try.results10 (by first | exact RV.tmp rfl | exact RV.cell rfl (eP_len _) | exact RV.cell rfl rfl | exact RV.cell1 rfl) (by first | exact RV.tmp rfl | exact RV.cell rfl (eP_len _) | exact RV.cell rfl rfl | exact RV.cell1 rfl) | exact resR3 Try.results10 (by first | exact RV.tmp rfl | exact RV.cell rfl (eP_len _) | exact RV.cell rfl rfl | exact RV.cell1 rfl) (by first | exact RV.tmp rfl | exact RV.cell rfl (eP_len _) | exact RV.cell rfl rfl | exact RV.cell1 rfl) (by first | exact RV.tmp rfl | exact RV.cell rfl (eP_len _) | exact RV.cell rfl rfl | exact RV.cell1 rfl)) ⟨hb, rfl, rfl⟩ (by repeat (first | exact Takes.nil | apply Takes.dup rfl | apply Takes.cons | exact Take1.here | apply Take1.there)) (by repeat (first | exact Subs.refl | refine Subs.skip ?_))
def soF (m : ToM) : SlD R := ⟨m.so, m.t.sacks.length, m.sc, m.t.sacks⟩
def xoF (m : ToM) : SlD UInt8 := ⟨m.xo, m.t.data.length, m.xc, m.t.data⟩
theorem takes_cons (h : He) (l : List Ar) (k : Nat) (hk : k < l.length) : runs h (l.take (k + 1)) = runs h (l.take k) ++ [(doF (ends h (l.take k)) (l.getD k default)).2] ∧ ends h (l.take (k + 1)) = (doF (ends h (l.take k)) (l.getD k default)).1 := by
  have e : l.take (k + 1) = l.take k ++ [l.getD k default] := by
    rw [List.take_succ_eq_append_getElem hk, List.getD_eq_getElem?_getD, List.getElem?_eq_getElem hk]; rfl
  rw [e, runs_app, ends_app]; exact ⟨rfl, rfl⟩
theorem RunOk.take {h : He} {l : List Ar} (ho : RunOk h l) (k : Nat) (hk : k < l.length) : RunOk h (l.take k) ∧ AOk (ends h (l.take k)) (l.getD k default) := by
  have e : l = l.take k ++ (l.getD k default :: l.drop (k + 1)) := by
    rw [List.getD_eq_getElem?_getD, List.getElem?_eq_getElem hk]
    conv => lhs; rw [← List.take_append_drop k l, List.drop_eq_getElem_cons hk]
    rfl
  rw [e, RunOk_app] at ho
  exact ⟨ho.1, ho.2.1⟩
set_option maxHeartbeats 4000000 in
theorem play_sp (room : Int) (hr : 1 ≤ room ∧ room ≤ 4096) (r : Res) (ao : Option Addr) (n c : Nat) (L : List ArM) (hl : L.length = n) (hn : n ≤ 300) [hR : RdR r ao n c 5 (flat eAr L)] (hL : ∀ m ∈ L, MOk m) (hok : RunOk (newF room) (L.map toAr)) :
    Spec Try.prog 7 [.int .i64 room, .slice ao n c] [r, .per (Rd eB 1 (L.map (·.d)))] fun v give => ∃ (T : List ToM) (o : Option Addr) (oc : Nat), T.map (·.t) = runs (newF room) (L.map toAr) ∧ v = .tuple #[.slice o n oc, .int .i64 0] ∧ give = [.vec 44 6 o n oc (flat eTo T), .per (Rd eR 2 (T.map soF)), .per (Rd eB 1 (T.map xoF)), r, .per (Rd eB 1 (L.map (·.d)))] := by
  have hH : HOk (newF room) := HOk.new hr
  refine Spec.intro Try.func7 rfl Try.ntmps7 rfl fun w0 rest rs_ hrs_ => ?_
  simp only [List.cons_append, List.nil_append] at hrs_
  subst hrs_
  repeat (first | (apply G.ex (hd := rfl); case h => (first | exact Ex.move rfl | exact Ex.lss rfl rfl | exact Ex.gtr rfl rfl | exact Ex.lenSl rfl | exact Ex.assign rfl | exact Ex.pickF rfl (by first | assumption | omega) rfl)) | refine G.g_ff rfl rfl (by first | assumption | omega) ?_ | refine G.nil ?_ | refine GC.seq ?_ | refine GC.region ?_ | refine GC.skip ?_ | refine GE.then_normal ?_ | refine GC.cond_no rfl (by first | assumption | omega) ?_)
  first | refine G.call (caps := []) (new_sp room) rfl rfl rfl rfl (by repeat (first | exact Takes.nil | apply Takes.dup rfl | apply Takes.cons | exact Take1.here | apply Take1.there)) ?_ | refine G.callU (caps := []) (new_sp room) rfl rfl rfl (by repeat (first | exact Takes.nil | apply Takes.dup rfl | apply Takes.cons | exact Take1.here | apply Take1.there)) ?_
  rintro v_ give_ ⟨hb, rfl, rfl⟩ rs_ hrs_
  simp only [List.cons_append, List.nil_append] at hrs_
  subst hrs_
  first | refine G.nilvec 5 1 ?_ | refine GC.nilvec 5 1 ?_
  first | refine G.nilvec 65 2 ?_ | refine GC.nilvec 65 2 ?_
  first | refine G.frz none ?_ | refine GC.frz none ?_ | refine GE.frz none ?_
  refine G.conv (fun w_ H_ => Holds.rdNil eR 2 H_) ?_
  refine G.conv (fun w_ H_ => Holds.rdNil eB 1 H_) ?_
  first | refine G.nilvec 44 6 ?_ | refine GC.nilvec 44 6 ?_
  have hr1 : ¬ room < 1 := by omega
  repeat (first | (apply G.ex (hd := rfl); case h => (first | exact Ex.move rfl | exact Ex.lenSl rfl | exact Ex.assign rfl)) | refine G.nil ?_ | refine GC.seq ?_ | refine GC.region ?_ | refine GC.block ?_ | refine GE.then_normal ?_)
  have hLl : (L.map toAr).length = n := by rw [List.length_map]; exact hl
  refine GC.loop (ι := Nat × List ToM × (Option Addr × Nat) × (Option Addr × Nat) × (Option Addr × Nat)) (fun x => x.1 ≤ n ∧ x.2.1.map (·.t) = runs (newF room) ((L.map toAr).take x.1) ∧ x.2.1.length = x.1) (fun x => n - x.1) (fun x => [(6, .pointer (some (badr hb 0))), (7, .slice x.2.2.2.2.1 x.1 x.2.2.2.2.2), (21, .slice ao n c), (22, .int .i64 (n : Int)), (23, .int .i64 (x.1 : Int))]) (fun x => [.blk hb 59 [.int .i64 (ends (newF room) ((L.map toAr).take x.1)).room, .slice x.2.2.1.1 (ends (newF room) ((L.map toAr).take x.1)).data.length x.2.2.1.2, .int .i64 (ends (newF room) ((L.map toAr).take x.1)).done, .slice x.2.2.2.1.1 (ends (newF room) ((L.map toAr).take x.1)).more.length x.2.2.2.1.2, .int .i64 (ends (newF room) ((L.map toAr).take x.1)).taken, .int .i64 (ends (newF room) ((L.map toAr).take x.1)).end_], .vec 5 1 x.2.2.1.1 (ends (newF room) ((L.map toAr).take x.1)).data.length x.2.2.1.2 (flat eB (ends (newF room) ((L.map toAr).take x.1)).data), .sl x.2.2.2.1.1 (ends (newF room) ((L.map toAr).take x.1)).more.length x.2.2.2.1.2 2 (flat eR (ends (newF room) ((L.map toAr).take x.1)).more), .vec 44 6 x.2.2.2.2.1 x.1 x.2.2.2.2.2 (flat eTo x.2.1), .per (Rd eR 2 (x.2.1.map soF)), .per (Rd eB 1 (x.2.1.map xoF)), r, .per (Rd eB 1 (L.map (·.d)))]) (0, [], (none, 0), (none, 0), (none, 0)) ⟨Nat.zero_le _, rfl, rfl⟩ (by simp only [fits]; repeat (first | exact trivial | refine And.intro rfl ?_)) (by repeat (first | exact Takes.nil | apply Takes.dup rfl | apply Takes.cons | exact Take1.here | apply Take1.there)) ?_
  rintro ⟨k, T, ⟨da, dc⟩, ⟨mo, mc⟩, ⟨o, oc⟩⟩ ⟨hk, hT, hTl⟩ fr_ rs_ hfr_ hrs_
  simp only [List.cons_append, List.nil_append] at hfr_ hrs_
  subst hfr_ hrs_
  simp only at hk hT hTl
  repeat (first | (apply G.ex (hd := rfl); case h => (first | exact Ex.lss rfl rfl)) | refine G.nil ?_ | refine GC.seq ?_ | refine GC.region ?_ | refine GE.then_normal ?_)
  refine GC.cond_dec rfl (fun hlt => ?_) (fun hlt => ?_)
  · have hlt : k < n := by omega
    obtain ⟨hro, hao⟩ := hok.take k (by omega)
    have hdk : (L.map (·.d)).getD k default = (L.getD k default).d := by
      rw [List.getD_eq_getElem?_getD, List.getElem?_map, List.getD_eq_getElem?_getD, List.getElem?_eq_getElem (show k < L.length by omega)]; rfl
    have hak : (L.map toAr).getD k default = toAr (L.getD k default) := by
      rw [List.getD_eq_getElem?_getD, List.getElem?_map, List.getD_eq_getElem?_getD, List.getElem?_eq_getElem (show k < L.length by omega)]; rfl
    have hmk := hL (L.getD k default) (by rw [List.getD_eq_getElem?_getD, List.getElem?_eq_getElem (show k < L.length by omega)]; exact List.getElem_mem _)
    obtain ⟨hruns, hends⟩ := takes_cons (newF room) (L.map toAr) k (by omega)
    have hKk := HOk.ends hH hro
    rw [hak] at hao hruns hends
    refine GC.conv (fun w_ H_ => H_.rdAt (l := L.map (·.d)) (enc := eB) (s := 1) (by simp) k (by rw [List.length_map]; omega)) ?_
    rw [hdk]
    repeat (first | (apply G.ex (hd := rfl); case h => (first | exact Ex.indexN rfl rfl (by first | omega | (simp; done) | (simp; omega)) | exact Ex.loadTA rfl (by first | omega | (simp; done) | (simp; omega)))) | refine GC.seq ?_ | refine GC.region ?_ | refine GC.block ?_ | refine GC.skip ?_ | refine GE.then_normal ?_)
    refine G.alloc rfl (fun ab => ?_)
    repeat (first | refine G.storeBA rfl rfl rfl rfl rfl ?_ | (apply G.ex (hd := rfl); case h => (first | exact Ex.move rfl | exact Ex.loadBA rfl rfl rfl)) | refine G.nil ?_ | refine GC.region ?_ | refine GE.then_normal ?_)
    first | refine G.call (caps := []) (do_sp hb (ends (newF room) ((L.map toAr).take k)) hKk (L.getD k default) hmk hao da dc mo mc) rfl rfl rfl rfl (by repeat (first | exact Takes.nil | apply Takes.dup rfl | apply Takes.cons | exact Take1.here | apply Take1.there)) ?_ | refine G.callU (caps := []) (do_sp hb (ends (newF room) ((L.map toAr).take k)) hKk (L.getD k default) hmk hao da dc mo mc) rfl rfl rfl (by repeat (first | exact Takes.nil | apply Takes.dup rfl | apply Takes.cons | exact Take1.here | apply Take1.there)) ?_
    rintro v_ give_ ⟨da2, dc2, mo2, mc2, so, sc, xo, xc, rfl, rfl⟩ rs_ hrs_
    simp only [List.cons_append, List.nil_append] at hrs_
    subst hrs_
    rw [← hends]
    generalize (doF (ends (newF room) ((L.map toAr).take k)) (toAr (L.getD k default))).2 = tt at *
    have hcat : flat eTo T ++ flat eTo [(⟨tt, so, sc, xo, xc⟩ : ToM)] = flat eTo (T ++ [⟨tt, so, sc, xo, xc⟩]) := (flat_append ..).symm
    refine G.lit (cells := flat eTo [(⟨tt, so, sc, xo, xc⟩ : ToM)]) rfl (by rfl) (by rfl) (by rfl) (by rfl) (by rfl) (by rfl) rfl (fun q => ?_)
    refine G.app rfl rfl (by rfl) (by omega) rfl (hcat) (fun o2 oc2 rs_ hrs_ => ?_)
    try simp only at hrs_
    subst hrs_
    refine G.conv (fun w_ H_ => Holds.rdSnoc (x := ⟨so, tt.sacks.length, sc, tt.sacks⟩) (H_.take (need := [.sl so tt.sacks.length sc 2 (flat eR tt.sacks), .per (Rd eR 2 (T.map soF))]) (by repeat (first | exact Takes.nil | apply Takes.dup rfl | apply Takes.cons | exact Take1.here | apply Take1.there)))) ?_
    try simp only [List.append_eq, List.nil_append, List.cons_append]
    refine G.conv (fun w_ H_ => Holds.rdSnoc (x := ⟨xo, tt.data.length, xc, tt.data⟩) (H_.take (need := [.sl xo tt.data.length xc 1 (flat eB tt.data), .per (Rd eB 1 (T.map xoF))]) (by repeat (first | exact Takes.nil | apply Takes.dup rfl | apply Takes.cons | exact Take1.here | apply Take1.there)))) ?_
    try simp only [List.append_eq, List.nil_append, List.cons_append]
    rw [show T.map soF ++ [⟨so, tt.sacks.length, sc, tt.sacks⟩] = (T ++ [(⟨tt, so, sc, xo, xc⟩ : ToM)]).map soF by rw [List.map_append]; rfl, show T.map xoF ++ [⟨xo, tt.data.length, xc, tt.data⟩] = (T ++ [(⟨tt, so, sc, xo, xc⟩ : ToM)]).map xoF by rw [List.map_append]; rfl]
    repeat (first | (apply G.ex (hd := rfl); case h => (first | exact Ex.move rfl | exact Ex.add rfl rfl (by omega) | exact Ex.assign rfl)) | refine G.nil ?_ | refine GC.region ?_ | refine GE.then_normal ?_ | refine GE.block_normal ?_)
    rw [show (k : Int) + 1 = ((k + 1 : Nat) : Int) by omega]
    refine GE.loop (k + 1, T ++ [⟨tt, so, sc, xo, xc⟩], (da2, dc2), (mo2, mc2), (o2, oc2)) ⟨by simp only; omega, by simp only; rw [List.map_append, hT, hruns]; rfl, by simp only [List.length_append, hTl]; rfl⟩ (by simp only; omega) (by simp only [fits]; repeat (first | exact trivial | refine And.intro rfl ?_)) (by repeat (first | exact Takes.nil | apply Takes.dup rfl | apply Takes.cons | exact Take1.here | apply Take1.there)) (by repeat (first | exact Subs.refl | refine Subs.skip ?_))
  · obtain rfl : k = n := by omega
    rw [List.take_of_length_le (by omega)] at hT
    repeat (first | (apply G.ex (hd := rfl); case h => (first | exact Ex.move rfl | exact Ex.assign rfl)) | refine G.nil ?_ | refine GC.seq ?_ | refine GC.region ?_ | refine GC.ret ?_ | refine GC.exit ?_ | refine GE.then_normal ?_ | refine GE.then_exit ?_ | refine GE.block_hit ?_)
    refine GE.ret (by first | exact .inl rfl | exact .inr rfl) (by first | exact res0 Try.results7 | exact res1 Try.results7 rfl | exact res2 Try.results7 rfl rfl | exact resR1 Try.results7 (by first | exact RV.tmp rfl | exact RV.cell rfl (eP_len _) | exact RV.cell rfl rfl | exact RV.cell1 rfl) | exact resR2 Try.results7 (by first | exact RV.tmp rfl | exact RV.cell rfl (eP_len _) | exact RV.cell rfl rfl | exact RV.cell1 rfl) (by first | exact RV.tmp rfl | exact RV.cell rfl (eP_len _) | exact RV.cell rfl rfl | exact RV.cell1 rfl) | exact resR3 Try.results7 (by first | exact RV.tmp rfl | exact RV.cell rfl (eP_len _) | exact RV.cell rfl rfl | exact RV.cell1 rfl) (by first | exact RV.tmp rfl | exact RV.cell rfl (eP_len _) | exact RV.cell rfl rfl | exact RV.cell1 rfl) (by first | exact RV.tmp rfl | exact RV.cell rfl (eP_len _) | exact RV.cell rfl rfl | exact RV.cell1 rfl)) ⟨T, o, oc, hT, rfl, rfl⟩ (by repeat (first | exact Takes.nil | apply Takes.dup rfl | apply Takes.cons | exact Take1.here | apply Take1.there)) (by repeat (first | exact Subs.refl | refine Subs.skip ?_))
end recv
end Go.Proofs.Ytkinpmbokkfpbaa
