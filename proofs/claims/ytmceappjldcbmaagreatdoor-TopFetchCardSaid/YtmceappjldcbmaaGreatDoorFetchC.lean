/-
  CONTRACT of fetch.Play, by the kit.
-/
import Derived.Test.YtmceappjldcbmaaGreatDoorFetchB
namespace Go.Proofs.YtmceappjldcbmaaGreatDoor
open Go.RowKit
attribute [local irreducible] Ex G GC GE Gq FPost LPost
set_option linter.unusedVariables false
set_option linter.unusedSimpArgs false
namespace fetch
def wF (m : NeM) : SlD Wa := ⟨m.wo, m.t.wants.length, m.wc, m.t.wants⟩
def xF (m : NeM) : SlD UInt8 := ⟨m.xo, m.t.data.length, m.xc, m.t.data⟩
theorem getD_take1 {α : Type} [Inhabited α] (l : List α) (k : Nat) (h : k < l.length) : l.take (k + 1) = l.take k ++ [l.getD k default] := by
  rw [List.take_succ_eq_append_getElem h, List.getD_eq_getElem?_getD, List.getElem?_eq_getElem h]; rfl
theorem takes_cons (h : Fe) (l : List Got) (k : Nat) (hk : k < l.length) : runs h (l.take (k + 1)) = runs h (l.take k) ++ [(gotF (ends h (l.take k)) (l.getD k default)).2] ∧ ends h (l.take (k + 1)) = (gotF (ends h (l.take k)) (l.getD k default)).1 := by
  rw [getD_take1 l k hk, runs_app, ends_app]; exact ⟨rfl, rfl⟩
set_option maxHeartbeats 4000000 in
theorem play_sp (r : Res) (ao : Option Addr) (n c : Nat) (L : List GoM) (hl : L.length = n) (hn : n ≤ 300) [hR : RdR r ao n c 3 (flat eG L)] (hL : ∀ m ∈ L, MOk m) :
    Spec Tryz.prog 7 [.slice ao n c] [r, .per (Rd eB 1 (L.map (·.d)))] fun v give => ∃ (T : List NeM) (o : Option Addr) (oc : Nat), T.map (·.t) = playF (L.map toG) ∧ v = .tuple #[.slice o (n + 1) oc, .int .i64 0] ∧ give = [.vec 34 4 o (n + 1) oc (flat eN T), .per (Rd eW 2 (T.map wF)), .per (Rd eB 1 (T.map xF)), r, .per (Rd eB 1 (L.map (·.d)))] := by
  have hH : FOk newF := FOk.new
  have hH1 : FOk (onF newF []).1 := hH.on []
  obtain ⟨f1, hf1⟩ : ∃ f1, f1 = (onF newF []).1 := ⟨_, rfl⟩
  obtain ⟨t1, ht1⟩ : ∃ t1, t1 = (onF newF []).2 := ⟨_, rfl⟩
  have hS := fun fb nb => on_sp fb nb newF hH [] (by simp) none 0 none 0 none 0
  rw [← hf1] at hH1 hS
  rw [← ht1] at hS
  have ht0 : t1.code = 0 := by rw [ht1]; rfl
  refine Spec.intro Tryz.func7 rfl Tryz.ntmps7 rfl fun w0 rest rs_ hrs_ => ?_
  simp only [List.cons_append, List.nil_append] at hrs_
  subst hrs_
  repeat (first | (apply G.ex (hd := rfl); case h => (first | exact Ex.move rfl | exact Ex.gtr rfl rfl | exact Ex.lenSl rfl | exact Ex.assign rfl | exact Ex.build rfl rfl)) | refine G.nil ?_ | refine GC.seq ?_ | refine GC.region ?_ | refine GC.skip ?_ | refine GE.then_normal ?_ | refine GC.cond_no rfl (by first | assumption | omega) ?_)
  refine G.box rfl rfl rfl (fun fb => ?_)
  repeat (first | (apply G.ex (hd := rfl); case h => (first | exact Ex.assign rfl)) | refine G.nil ?_ | refine GC.seq ?_ | refine GC.region ?_ | refine GE.then_normal ?_)
  refine G.alloc rfl (fun nb => ?_)
  refine G.nil ?_
  refine GE.then_normal ?_
  first | refine G.nilvec 5 1 ?_ | refine GC.nilvec 5 1 ?_
  first | refine G.nilvec 37 2 ?_ | refine GC.nilvec 37 2 ?_
  first | refine G.nilvec 37 2 ?_ | refine GC.nilvec 37 2 ?_
  repeat (first | (apply G.ex (hd := rfl); case h => (first | exact Ex.move rfl)) | refine GC.seq ?_ | refine GC.region ?_)
  first | refine G.call (caps := []) (hS fb nb) rfl rfl rfl rfl (by repeat first | exact tn_ | apply td_ rfl | apply tc_ | exact .here | apply Take1.there) ?_ | refine G.callU (caps := []) (hS fb nb) rfl rfl rfl (by repeat first | exact tn_ | apply td_ rfl | apply tc_ | exact .here | apply Take1.there) ?_
  rintro v_ give_ ⟨o1, c1, w1, wc1, x1, xc1, rfl, rfl⟩ rs_ hrs_
  simp only [List.cons_append, List.nil_append] at hrs_
  subst hrs_
  first | refine G.frz w1 ?_ | refine GC.frz w1 ?_ | refine GE.frz w1 ?_
  refine G.conv (fun w_ H_ => Holds.rdNil eW 2 H_) ?_
  refine G.conv (fun w_ H_ => Holds.rdNil eB 1 H_) ?_
  refine G.conv (fun w_ H_ => Holds.rdSnoc (x := ⟨w1, t1.wants.length, wc1, t1.wants⟩) (H_.take (need := [.sl w1 t1.wants.length wc1 2 (flat eW t1.wants), .per (Rd eW 2 [])]) (by repeat first | exact tn_ | apply td_ rfl | apply tc_ | exact .here | apply Take1.there))) ?_
  try simp only [List.append_eq, List.nil_append, List.cons_append]
  refine G.conv (fun w_ H_ => Holds.rdSnoc (x := ⟨x1, t1.data.length, xc1, t1.data⟩) (H_.take (need := [.sl x1 t1.data.length xc1 1 (flat eB t1.data), .per (Rd eB 1 [])]) (by repeat first | exact tn_ | apply td_ rfl | apply tc_ | exact .here | apply Take1.there))) ?_
  try simp only [List.append_eq, List.nil_append, List.cons_append]
  obtain ⟨m1, hm1⟩ : ∃ m1 : NeM, m1 = ⟨t1, w1, wc1, x1, xc1⟩ := ⟨_, rfl⟩
  have hm1e : eN m1 = [.int .i64 0, .slice w1 t1.wants.length wc1, .bool t1.done, .slice x1 t1.data.length xc1] := by rw [hm1, ← ht0]; rfl
  rw [show [(⟨w1, t1.wants.length, wc1, t1.wants⟩ : SlD Wa)] = [m1].map wF by rw [hm1]; rfl, show [(⟨x1, t1.data.length, xc1, t1.data⟩ : SlD UInt8)] = [m1].map xF by rw [hm1]; rfl]
  repeat (first | (apply G.ex (hd := rfl); case h => (first | exact Ex.loadBA rfl rfl rfl)) | refine G.nil ?_ | refine GC.seq ?_ | refine GC.region ?_ | refine GE.then_normal ?_)
  refine G.lit (cells := [.int .i64 0, .slice w1 t1.wants.length wc1, .bool t1.done, .slice x1 t1.data.length xc1]) rfl (by rfl) (by rfl) (by rfl) (by rfl) (by rfl) (by rfl) rfl (fun q1 => ?_)
  rw [show [.int .i64 0, .slice w1 t1.wants.length wc1, .bool t1.done, .slice x1 t1.data.length xc1] = flat eN [m1] by rw [flat_one, hm1e]]
  repeat (first | (apply G.ex (hd := rfl); case h => (first | exact Ex.move rfl | exact Ex.lenSl rfl | exact Ex.assign rfl)) | refine G.nil ?_ | refine GC.seq ?_ | refine GC.region ?_ | refine GC.block ?_ | refine GE.then_normal ?_)
  have hLl : (L.map toG).length = n := by rw [List.length_map]; exact hl
  refine GC.loop (ι := Nat × List NeM × (Option Addr × Nat) × (Option Addr × Nat) × (Option Addr × Nat)) (fun x => x.1 ≤ n ∧ x.2.1.map (·.t) = t1 :: runs f1 ((L.map toG).take x.1) ∧ x.2.1.length = x.1 + 1) (fun x => n - x.1) (fun x => [(4, .pointer (some (badr fb 0))), (6, .slice x.2.2.2.2.1 (x.1 + 1) x.2.2.2.2.2), (18, .slice ao n c), (19, .int .i64 (n : Int)), (20, .int .i64 (x.1 : Int))]) (fun x => [.blk fb 52 [.slice x.2.2.1.1 (ends f1 ((L.map toG).take x.1)).out.length x.2.2.1.2, .int .i64 (ends f1 ((L.map toG).take x.1)).front, .int .i64 (ends f1 ((L.map toG).take x.1)).end_, .slice x.2.2.2.1.1 (ends f1 ((L.map toG).take x.1)).data.length x.2.2.2.1.2], .vec 37 2 x.2.2.1.1 (ends f1 ((L.map toG).take x.1)).out.length x.2.2.1.2 (flat eW (ends f1 ((L.map toG).take x.1)).out), .vec 5 1 x.2.2.2.1.1 (ends f1 ((L.map toG).take x.1)).data.length x.2.2.2.1.2 (flat eB (ends f1 ((L.map toG).take x.1)).data), .vec 34 4 x.2.2.2.2.1 (x.1 + 1) x.2.2.2.2.2 (flat eN x.2.1), .per (Rd eW 2 (x.2.1.map wF)), .per (Rd eB 1 (x.2.1.map xF)), r, .per (Rd eB 1 (L.map (·.d)))]) (0, [m1], (o1, c1), (none, 0), (q1, 1)) ⟨Nat.zero_le _, by simp only; rw [hm1]; rfl, rfl⟩ (by simp only [fits]; repeat (first | exact trivial | refine And.intro rfl ?_)) (by repeat first | exact tn_ | apply td_ rfl | apply tc_ | exact .here | apply Take1.there) ?_
  rintro ⟨k, T, ⟨oo, oc⟩, ⟨da, dc⟩, ⟨o, c0⟩⟩ ⟨hk, hT, hTl⟩ fr_ rs_ hfr_ hrs_
  simp only [List.cons_append, List.nil_append] at hfr_ hrs_
  subst hfr_ hrs_
  simp only at hk hT hTl
  repeat (first | (apply G.ex (hd := rfl); case h => (first | exact Ex.lss rfl rfl)) | refine G.nil ?_ | refine GC.seq ?_ | refine GC.region ?_ | refine GE.then_normal ?_)
  refine GC.cond_dec rfl (fun hlt => ?_) (fun hlt => ?_)
  · have hlt : k < n := by omega
    have hdk : (L.map (·.d)).getD k default = (L.getD k default).d := getD_mapT _ _ _ (by omega)
    have hak : (L.map toG).getD k default = toG (L.getD k default) := getD_mapT _ _ _ (by omega)
    have hmk := hL (L.getD k default) (getD_mem1 L k (by omega))
    obtain ⟨hruns, hends⟩ := takes_cons f1 (L.map toG) k (by omega)
    have hKk := FOk.ends (l := (L.map toG).take k) hH1
    rw [hak] at hruns hends
    refine GC.conv (fun w_ H_ => H_.rdAt (l := L.map (·.d)) (enc := eB) (s := 1) (by simp) k (by rw [List.length_map]; omega)) ?_
    rw [hdk]
    repeat (first | (apply G.ex (hd := rfl); case h => (first | exact Ex.indexN rfl rfl (by first | omega | (simp; done) | (simp; omega)) | exact Ex.loadTA rfl (by first | omega | (simp; done) | (simp; omega)))) | refine GC.seq ?_ | refine GC.region ?_ | refine GC.block ?_ | refine GC.skip ?_ | refine GE.then_normal ?_)
    refine G.alloc rfl (fun ab => ?_)
    repeat (first | refine G.storeBA rfl rfl rfl rfl rfl ?_ | (apply G.ex (hd := rfl); case h => (first | exact Ex.move rfl | exact Ex.loadBA rfl rfl rfl)) | refine G.nil ?_ | refine GC.region ?_ | refine GE.then_normal ?_)
    first | refine G.call (caps := []) (got_sp fb (ends f1 ((L.map toG).take k)) hKk (L.getD k default) hmk oo oc da dc) rfl rfl rfl rfl (by repeat first | exact tn_ | apply td_ rfl | apply tc_ | exact .here | apply Take1.there) ?_ | refine G.callU (caps := []) (got_sp fb (ends f1 ((L.map toG).take k)) hKk (L.getD k default) hmk oo oc da dc) rfl rfl rfl (by repeat first | exact tn_ | apply td_ rfl | apply tc_ | exact .here | apply Take1.there) ?_
    rintro v_ give_ ⟨oo2, oc2, da2, dc2, w2, wc2, x2, xc2, rfl, rfl⟩ rs_ hrs_
    simp only [List.cons_append, List.nil_append] at hrs_
    subst hrs_
    rw [← hends]
    generalize (gotF (ends f1 ((L.map toG).take k)) (toG (L.getD k default))).2 = tt at *
    have hcat : flat eN T ++ flat eN [(⟨tt, w2, wc2, x2, xc2⟩ : NeM)] = flat eN (T ++ [⟨tt, w2, wc2, x2, xc2⟩]) := (flat_append ..).symm
    refine G.lit (cells := flat eN [(⟨tt, w2, wc2, x2, xc2⟩ : NeM)]) rfl (by rfl) (by rfl) (by rfl) (by rfl) (by rfl) (by rfl) rfl (fun q => ?_)
    refine G.app rfl rfl (by rfl) (by omega) rfl (hcat) (fun o2 c2 rs_ hrs_ => ?_)
    try simp only at hrs_
    subst hrs_
    refine G.conv (fun w_ H_ => Holds.rdSnoc (x := ⟨w2, tt.wants.length, wc2, tt.wants⟩) (H_.take (need := [.sl w2 tt.wants.length wc2 2 (flat eW tt.wants), .per (Rd eW 2 (T.map wF))]) (by repeat first | exact tn_ | apply td_ rfl | apply tc_ | exact .here | apply Take1.there))) ?_
    try simp only [List.append_eq, List.nil_append, List.cons_append]
    refine G.conv (fun w_ H_ => Holds.rdSnoc (x := ⟨x2, tt.data.length, xc2, tt.data⟩) (H_.take (need := [.sl x2 tt.data.length xc2 1 (flat eB tt.data), .per (Rd eB 1 (T.map xF))]) (by repeat first | exact tn_ | apply td_ rfl | apply tc_ | exact .here | apply Take1.there))) ?_
    try simp only [List.append_eq, List.nil_append, List.cons_append]
    rw [show T.map wF ++ [⟨w2, tt.wants.length, wc2, tt.wants⟩] = (T ++ [(⟨tt, w2, wc2, x2, xc2⟩ : NeM)]).map wF by rw [List.map_append]; rfl, show T.map xF ++ [⟨x2, tt.data.length, xc2, tt.data⟩] = (T ++ [(⟨tt, w2, wc2, x2, xc2⟩ : NeM)]).map xF by rw [List.map_append]; rfl]
    repeat (first | (apply G.ex (hd := rfl); case h => (first | exact Ex.move rfl | exact Ex.add rfl rfl (by omega) | exact Ex.assign rfl)) | refine G.nil ?_ | refine GC.region ?_ | refine GE.then_normal ?_ | refine GE.block_normal ?_)
    rw [show (k : Int) + 1 = ((k + 1 : Nat) : Int) by omega]
    refine GE.loop (k + 1, T ++ [⟨tt, w2, wc2, x2, xc2⟩], (oo2, oc2), (da2, dc2), (o2, c2)) ⟨by simp only; omega, by simp only; rw [List.map_append, hT, hruns]; rfl, by simp only [List.length_append, hTl]; rfl⟩ (by simp only; omega) (by simp only [fits]; repeat (first | exact trivial | refine And.intro rfl ?_)) (by repeat first | exact tn_ | apply td_ rfl | apply tc_ | exact .here | apply Take1.there) (by repeat (first | exact Subs.refl | refine Subs.skip ?_))
  · obtain rfl : k = n := by omega
    rw [List.take_of_length_le (by omega)] at hT
    repeat (first | (apply G.ex (hd := rfl); case h => (first | exact Ex.move rfl | exact Ex.assign rfl)) | refine G.nil ?_ | refine GC.seq ?_ | refine GC.region ?_ | refine GC.ret ?_ | refine GC.exit ?_ | refine GE.then_normal ?_ | refine GE.then_exit ?_ | refine GE.block_hit ?_)
    refine GE.ret (by first | exact .inl rfl | exact .inr rfl) (res2 Tryz.results7 rfl rfl) ⟨T, o, c0, by rw [hT, ht1, hf1]; rfl, rfl, rfl⟩ (by repeat first | exact tn_ | apply td_ rfl | apply tc_ | exact .here | apply Take1.there) (by repeat (first | exact Subs.refl | refine Subs.skip ?_))
end fetch
end Go.Proofs.YtmceappjldcbmaaGreatDoor
