/-
  CONTRACT of packthreadkeep.FetchStill, by the kit.
-/
import Derived.Test.YtpeidlaejjfmeaaFetchC
import Derived.Test.YtpeidlaejjfmeaaFetchQ
import Derived.Test.YtpeidlaejjfmeaaStream
import Derived.Test.YtpeidlaejjfmeaaKit14
import Derived.Test.YtpeidlaejjfmeaaKit24
namespace Go.Proofs.Ytpeidlaejjfmeaa
open Go.RowKit
attribute [local irreducible] Ex G GC GE Gq FPost LPost
set_option linter.unusedVariables false
set_option linter.unusedSimpArgs false
namespace fetch
open strm
def sentM : NeM := ⟨⟨7, [], false, []⟩, none, 0, none, 0⟩
structure Same (f1 : Fe) (A : List Got) (b i : Nat) (B : List GoM) (W : List NeM) : Prop where
  le : B.length ≤ b
  len : B.length = W.length
  ok : ∀ m ∈ B, MOk m
  ends : ends f1 (B.map toG) = fetch.ends f1 (A.take i)
  runs : runs f1 (B.map toG) = W.map (·.t)
theorem Same.more {f1 : Fe} {A : List Got} {b i : Nat} {B : List GoM} {W : List NeM} (h : Same f1 A b i B W) (m : GoM) (w : NeM) (hm : MOk m) (j : Nat) (h1 : (gotF (fetch.ends f1 (A.take i)) (toG m)).1 = fetch.ends f1 (A.take j)) (h2 : w.t = (gotF (fetch.ends f1 (A.take i)) (toG m)).2) : Same f1 A (b + 1) j (B ++ [m]) (W ++ [w]) := by
  refine ⟨by have := h.le; simp only [List.length_append, List.length_singleton]; omega, by have := h.len; simp only [List.length_append, List.length_singleton]; omega, fun x hx => (List.mem_append.1 hx).elim (h.ok x) (fun e => by obtain rfl := List.mem_singleton.1 e; exact hm), ?_, ?_⟩
  · rw [List.map_append, ends_app, h.ends]; exact h1
  · rw [List.map_append, runs_app, h.runs, h.ends, List.map_append]
    show _ ++ [(gotF (fetch.ends f1 (A.take i)) (toG m)).2] = _ ++ [w.t]
    rw [h2]
set_option maxHeartbeats 16000000 in
theorem fetchStill_sp (a0 : Int) (ha0 : -9223372036854775808 ≤ a0 ∧ a0 ≤ 9223372036854775807) (a1 : Int) (ha1 : -9223372036854775808 ≤ a1 ∧ a1 ≤ 9223372036854775807) (a2 : Option Addr) (len2 cap2 : Nat) (z2 : List Int) (hl2 : z2.length = len2) (hb2 : len2 ≤ 9223372036854775807) (hw2 : ∀ z ∈ z2, -9223372036854775808 ≤ z ∧ z ≤ 9223372036854775807) (a3 : Option Addr) (len3 cap3 : Nat) (z3 : List Int) (hl3 : z3.length = len3) (hb3 : len3 ≤ 9223372036854775807) (hw3 : ∀ z ∈ z3, -9223372036854775808 ≤ z ∧ z ≤ 9223372036854775807) :
    Spec Try.prog 4 [.int .i64 a0, .int .i64 a1, .slice a2 len2 cap2, .slice a3 len3 cap3] [.sl a2 len2 cap2 1 (flat (eI .i64) z2), .sl a3 len3 cap3 1 (flat (eI .i64) z3)] fun v give => v = .bool true ∧ give = [] := by
  have htt : ¬ ¬ true = true := fun h => h rfl
  have s1 := Int.emod_nonneg a1 (show (600 : Int) ≠ 0 by omega)
  have s2 := Int.emod_lt_of_pos a1 (show (0 : Int) < 600 by omega)
  obtain ⟨n, hn⟩ : ∃ n : Nat, a1 % 600 = (n : Int) := ⟨(a1 % 600).toNat, by omega⟩
  refine Spec.intro Try.func4 rfl Try.ntmps4 rfl fun w0 rest rs_ hrs_ => ?_
  simp only [List.cons_append, List.nil_append] at hrs_
  subst hrs_
  repeat (first | (apply G.ex (hd := rfl); case h => (first | exact Ex.move rfl | exact Ex.assign rfl)) | refine G.nil ?_ | refine GC.seq ?_ | refine GC.region ?_ | refine GE.then_normal ?_)
  first | refine G.call (caps := []) (picked_sp a1 600 (by omega) (by omega)) rfl rfl rfl rfl (by repeat (first | exact Takes.nil | apply Takes.dup rfl | apply Takes.cons | exact Take1.here | apply Take1.there)) ?_ | refine G.callU (caps := []) (picked_sp a1 600 (by omega) (by omega)) rfl rfl rfl (by repeat (first | exact Takes.nil | apply Takes.dup rfl | apply Takes.cons | exact Take1.here | apply Take1.there)) ?_
  rintro v_ give_ ⟨rfl, rfl⟩ rs_ hrs_
  simp only [List.cons_append, List.nil_append] at hrs_
  subst hrs_
  rw [hn]
  repeat (first | fail)
  first | refine G.call (caps := []) (stream_sp a0 n (by omega)) rfl rfl rfl rfl (by repeat (first | exact Takes.nil | apply Takes.dup rfl | apply Takes.cons | exact Take1.here | apply Take1.there)) ?_ | refine G.callU (caps := []) (stream_sp a0 n (by omega)) rfl rfl rfl (by repeat (first | exact Takes.nil | apply Takes.dup rfl | apply Takes.cons | exact Take1.here | apply Take1.there)) ?_
  rintro v_ give_ ⟨so, sc, s, hs, rfl, rfl⟩ rs_ hrs_
  simp only [List.cons_append, List.nil_append] at hrs_
  subst hrs_
  first | refine G.frz so ?_ | refine GC.frz so ?_ | refine GE.frz so ?_
  first | refine G.nilvec 32 3 ?_ | refine GC.nilvec 32 3 ?_
  refine G.conv (fun w_ H_ => Holds.rdNil eB 1 H_) ?_
  repeat (first | (apply G.ex (hd := rfl); case h => (first | exact Ex.assign rfl)) | refine G.nil ?_ | refine GC.seq ?_ | refine GC.region ?_ | refine GC.block ?_ | refine GE.then_normal ?_)
  refine GC.conv (rs' := [.sl so n sc 1 (flat eB s), .vec 32 3 none 0 0 [], .per (Rd eB 1 ([] : List (SlD UInt8))), .sl a2 len2 cap2 1 (flat (eI .i64) z2), .sl a3 len3 cap3 1 (flat (eI .i64) z3)] ++ rest) (fun w_ H_ => ?_) ?_
  · have h_ := H_.take (need := [.sl so n sc 1 (flat eB s), .vec 32 3 none 0 0 [], .per (Rd eB 1 ([] : List (SlD UInt8))), .sl a2 len2 cap2 1 (flat (eI .i64) z2), .sl a3 len3 cap3 1 (flat (eI .i64) z3)]) (by repeat (first | exact Takes.nil | apply Takes.dup rfl | apply Takes.cons | exact Take1.here | apply Take1.there))
    exact subs_app (by repeat (first | exact Subs.refl | refine Subs.skip ?_)) h_
  try simp only [List.append_eq, List.nil_append, List.cons_append]
  refine GC.loop (ι := Nat × List GoM × Option Addr × Nat) (fun x => x.1 ≤ len2 ∧ x.1 ≤ 60 ∧ x.2.1.length = x.1 ∧ ∀ m ∈ x.2.1, MOk m) (fun x => len2 - x.1) (fun x => [(2, .slice a2 len2 cap2), (3, .slice a3 len3 cap3), (9, .slice so n sc), (10, .slice x.2.2.1 x.1 x.2.2.2), (11, .int .i64 (x.1 : Int))]) (fun x => [.sl so n sc 1 (flat eB s), .vec 32 3 x.2.2.1 x.1 x.2.2.2 (flat eG x.2.1), .per (Rd eB 1 (x.2.1.map (·.d))), .sl a2 len2 cap2 1 (flat (eI .i64) z2), .sl a3 len3 cap3 1 (flat (eI .i64) z3)]) (0, [], none, 0) ⟨Nat.zero_le _, Nat.zero_le _, rfl, fun m h => (nomatch h)⟩ (by simp only [fits]; repeat (first | exact trivial | refine And.intro rfl ?_)) (by repeat (first | exact Takes.nil | apply Takes.dup rfl | apply Takes.cons | exact Take1.here | apply Take1.there)) ?_
  rintro ⟨k, A, oa, oac⟩ ⟨hk, hk60, hAl, hA⟩ fr_ rs_ hfr_ hrs_
  simp only [List.cons_append, List.nil_append] at hfr_ hrs_
  subst hfr_ hrs_
  simp only at hk hk60 hAl hA
  by_cases g12 : k < len2 ∧ k < 60
  · obtain ⟨g1, g2⟩ := g12
    · have hz := hw2 (z2.getD k default) (getD_mem1 _ _ (by omega))
      have p1 := Int.emod_nonneg (z2.getD k default) (show (9 : Int) ≠ 0 by omega)
      have p2 := Int.emod_lt_of_pos (z2.getD k default) (show (0 : Int) < 9 by omega)
      have g2' : (k : Int) < 60 := by omega
      repeat (first | (apply G.ex (hd := rfl); case h => (first | exact Ex.move rfl | exact Ex.lss rfl rfl | exact Ex.lenSl rfl | exact Ex.indexN rfl rfl (by first | omega | (simp; done) | (simp; omega)) | exact Ex.loadT0 rfl (by first | omega | (simp; done) | (simp; omega)) rfl | exact Ex.pickT rfl (by first | assumption | omega) rfl)) | refine G.g_tt rfl rfl (by first | assumption | omega) ?_ | refine G.nil ?_ | refine GC.seq ?_ | refine GC.region ?_ | refine GC.block ?_ | refine GC.skip ?_ | refine GE.then_normal ?_ | refine GC.cond_yes rfl (by first | assumption | omega) ?_)
      first | refine G.call (caps := []) (picked_sp (z2.getD k default) 9 (by omega) (by omega)) rfl rfl rfl rfl (by repeat (first | exact Takes.nil | apply Takes.dup rfl | apply Takes.cons | exact Take1.here | apply Take1.there)) ?_ | refine G.callU (caps := []) (picked_sp (z2.getD k default) 9 (by omega) (by omega)) rfl rfl rfl (by repeat (first | exact Takes.nil | apply Takes.dup rfl | apply Takes.cons | exact Take1.here | apply Take1.there)) ?_
      rintro v_ give_ ⟨rfl, rfl⟩ rs_ hrs_
      simp only [List.cons_append, List.nil_append] at hrs_
      subst hrs_
      obtain ⟨F, hF⟩ : ∃ F : Nat, z2.getD k default % 9 * 100 = (F : Int) := ⟨(z2.getD k default % 9 * 100).toNat, by omega⟩
      by_cases hlt : F < n
      · obtain ⟨E, hE⟩ : ∃ E : Nat, min ((F : Int) + 100) (n : Int) = (E : Int) := ⟨(min ((F : Int) + 100) (n : Int)).toNat, by omega⟩
        repeat ((fail_if_success (refine GC.region (id := 8) ?_)); first | (apply G.ex (hd := rfl); case h => (first | exact Ex.assign rfl | exact Ex.mul rfl rfl (by omega))) | refine G.nil ?_ | refine GC.seq ?_ | refine GC.region ?_ | refine GE.then_normal ?_)
        rw [hF]
        repeat (first | (apply G.ex (hd := rfl); case h => (first | exact Ex.move rfl | exact Ex.add rfl rfl (by omega) | exact Ex.lss rfl rfl | exact Ex.lenSl rfl | exact Ex.min rfl rfl)) | refine G.nil ?_ | refine GC.region ?_ | refine GE.then_normal ?_ | refine GC.cond_yes rfl (by first | assumption | omega) ?_)
        rw [hE]
        refine G.sub (l := F) (r := E) rfl rfl (by first | exact .inl ⟨rfl, rfl⟩ | exact .inr ⟨_, _, rfl, ev_int rfl (by omega)⟩) (by first | exact .inl ⟨rfl, rfl⟩ | exact .inr ⟨_, _, rfl, ev_int rfl (by omega)⟩) (by omega) rfl (rfl) (fun q2 => ?_)
        rw [flat_cutB]
        refine G.appNil rfl rfl (by rfl) (by omega) rfl (rfl) (fun b2 c2 => ?_)
        first | refine G.frz b2 ?_ | refine GC.frz b2 ?_ | refine GE.frz b2 ?_
        have hel : ((s.drop F).take (E - F)).length = E - F := by rw [List.length_take, List.length_drop]; omega
        obtain ⟨m, hm⟩ : ∃ m : GoM, m = ⟨(F : Int), 100, ⟨b2, E - F, c2, (s.drop F).take (E - F)⟩⟩ := ⟨_, rfl⟩
        have hcat : flat eG A ++ flat eG [m] = flat eG (A ++ [m]) := (flat_append ..).symm
        repeat (first | (apply G.ex (hd := rfl); case h => (first | exact Ex.move rfl | exact Ex.assign rfl | exact Ex.build rfl rfl)) | refine G.nil ?_ | refine GC.region ?_ | refine GE.then_normal ?_)
        refine G.lit (cells := flat eG [(⟨(F : Int), 100, ⟨b2, E - F, c2, (s.drop F).take (E - F)⟩⟩ : GoM)]) rfl (by rfl) (by rfl) (by rfl) (by rfl) (by rfl) (by rfl) rfl (fun q => ?_)
        rw [← hm]
        refine G.app rfl rfl (by rfl) (by omega) rfl (hcat) (fun o2 oc2 rs_ hrs_ => ?_)
        try simp only at hrs_
        subst hrs_
        refine G.conv (fun w_ H_ => Holds.rdSnoc (x := ⟨b2, E - F, c2, (s.drop F).take (E - F)⟩) (H_.take (need := [.sl b2 (E - F) c2 1 (flat eB ((s.drop F).take (E - F))), .per (Rd eB 1 (A.map (·.d)))]) (by repeat (first | exact Takes.nil | apply Takes.dup rfl | apply Takes.cons | exact Take1.here | apply Take1.there)))) ?_
        try simp only [List.append_eq, List.nil_append, List.cons_append]
        rw [show A.map (·.d) ++ [⟨b2, E - F, c2, (s.drop F).take (E - F)⟩] = (A ++ [m]).map (·.d) by rw [List.map_append, hm]; rfl]
        repeat (first | (apply G.ex (hd := rfl); case h => (first | exact Ex.move rfl | exact Ex.add rfl rfl (by omega) | exact Ex.assign rfl)) | refine G.nil ?_ | refine GC.region ?_ | refine GE.then_normal ?_ | refine GE.block_normal ?_)
        rw [show (k : Int) + 1 = ((k + 1 : Nat) : Int) by omega]
        refine GE.loop (k + 1, A ++ [m], o2, oc2) ⟨by simp only; omega, by simp only; omega, by simp only [List.length_append, hAl]; rfl, fun x hx => (List.mem_append.1 hx).elim (hA x) (fun h => by obtain rfl := List.mem_singleton.1 h; rw [hm]; exact ⟨hel, by simp only; omega, by simp, by simp only; omega⟩)⟩ (by simp only; omega) (by simp only [fits]; repeat (first | exact trivial | refine And.intro rfl ?_)) (by repeat (first | exact Takes.nil | apply Takes.dup rfl | apply Takes.cons | exact Take1.here | apply Take1.there)) (by repeat (first | exact Subs.refl | refine Subs.skip ?_))
      · obtain ⟨m, hm⟩ : ∃ m : GoM, m = ⟨(F : Int), 100, ⟨none, 0, 0, []⟩⟩ := ⟨_, rfl⟩
        have hcat : flat eG A ++ flat eG [m] = flat eG (A ++ [m]) := (flat_append ..).symm
        repeat ((fail_if_success (refine GC.region (id := 8) ?_)); first | (apply G.ex (hd := rfl); case h => (first | exact Ex.assign rfl | exact Ex.mul rfl rfl (by omega))) | refine G.nil ?_ | refine GC.seq ?_ | refine GC.region ?_ | refine GE.then_normal ?_)
        rw [hF]
        repeat (first | (apply G.ex (hd := rfl); case h => (first | exact Ex.move rfl | exact Ex.lss rfl rfl | exact Ex.lenSl rfl | exact Ex.build rfl rfl)) | refine G.nil ?_ | refine GC.region ?_ | refine GC.skip ?_ | refine GE.then_normal ?_ | refine GC.cond_no rfl (by first | assumption | omega) ?_)
        refine G.lit (cells := flat eG [(⟨(F : Int), 100, ⟨none, 0, 0, []⟩⟩ : GoM)]) rfl (by rfl) (by rfl) (by rfl) (by rfl) (by rfl) (by rfl) rfl (fun q => ?_)
        rw [← hm]
        refine G.app rfl rfl (by rfl) (by omega) rfl (hcat) (fun o2 oc2 rs_ hrs_ => ?_)
        try simp only at hrs_
        subst hrs_
        first | refine G.nilvec 5 1 ?_ | refine GC.nilvec 5 1 ?_
        first | refine G.frz none ?_ | refine GC.frz none ?_ | refine GE.frz none ?_
        refine G.conv (fun w_ H_ => Holds.rdSnoc (x := ⟨none, 0, 0, []⟩) (H_.take (need := [.sl none 0 0 1 [], .per (Rd eB 1 (A.map (·.d)))]) (by repeat (first | exact Takes.nil | apply Takes.dup rfl | apply Takes.cons | exact Take1.here | apply Take1.there)))) ?_
        try simp only [List.append_eq, List.nil_append, List.cons_append]
        rw [show A.map (·.d) ++ [⟨none, 0, 0, []⟩] = (A ++ [m]).map (·.d) by rw [List.map_append, hm]; rfl]
        repeat (first | (apply G.ex (hd := rfl); case h => (first | exact Ex.move rfl | exact Ex.add rfl rfl (by omega) | exact Ex.assign rfl)) | refine G.nil ?_ | refine GC.region ?_ | refine GE.then_normal ?_ | refine GE.block_normal ?_)
        rw [show (k : Int) + 1 = ((k + 1 : Nat) : Int) by omega]
        refine GE.loop (k + 1, A ++ [m], o2, oc2) ⟨by simp only; omega, by simp only; omega, by simp only [List.length_append, hAl]; rfl, fun x hx => (List.mem_append.1 hx).elim (hA x) (fun h => by obtain rfl := List.mem_singleton.1 h; rw [hm]; exact ⟨rfl, by simp only; omega, by simp, by simp⟩)⟩ (by simp only; omega) (by simp only [fits]; repeat (first | exact trivial | refine And.intro rfl ?_)) (by repeat (first | exact Takes.nil | apply Takes.dup rfl | apply Takes.cons | exact Take1.here | apply Take1.there)) (by repeat (first | exact Subs.refl | refine Subs.skip ?_))
  · refine GC.seq ?_
    refine GC.seq ?_
    refine GC.meet (ι := Unit) (fun _ => True) (fun _ => [(2, .slice a2 len2 cap2), (3, .slice a3 len3 cap3), (9, .slice so n sc), (10, .slice oa k oac), (11, .int .i64 (k : Int)), (35, .bool false)]) (fun _ => [.vec 32 3 oa k oac (flat eG A), .per (Rd eB 1 (A.map (·.d))), .sl a3 len3 cap3 1 (flat (eI .i64) z3)]) rest ?_ ?_
    · rcases (show ¬ (k : Int) < (len2 : Int) ∨ ((k : Int) < (len2 : Int) ∧ ¬ (k : Int) < 60) by omega) with e | ⟨e1, e2⟩
      · repeat (first | (apply G.ex (hd := rfl); case h => (first | exact Ex.move rfl | exact Ex.lss rfl rfl | exact Ex.lenSl rfl | exact Ex.pickF rfl (by first | assumption | omega) rfl)) | refine G.g_tf rfl rfl (by first | assumption | omega) rfl ?_ | refine G.nil ?_ | refine GC.region ?_)
        refine GE.meet () trivial (by simp only [fits]; repeat (first | exact trivial | refine And.intro rfl ?_)) (by repeat (first | exact Takes.nil | apply Takes.dup rfl | apply Takes.cons | exact Take1.here | apply Take1.there)) (by repeat (first | exact Subs.refl | refine Subs.skip ?_))
      · repeat (first | (apply G.ex (hd := rfl); case h => (first | exact Ex.move rfl | exact Ex.lss rfl rfl | exact Ex.lenSl rfl | exact Ex.pickT rfl (by first | assumption | omega) rfl)) | refine G.g_tt rfl rfl (by first | assumption | omega) ?_ | refine G.nil ?_ | refine GC.region ?_)
        rw [decide_eq_false e2]
        refine GE.meet () trivial (by simp only [fits]; repeat (first | exact trivial | refine And.intro rfl ?_)) (by repeat (first | exact Takes.nil | apply Takes.dup rfl | apply Takes.cons | exact Take1.here | apply Take1.there)) (by repeat (first | exact Subs.refl | refine Subs.skip ?_))
    rintro ⟨⟩ - fr_ rs_ hfr_ hrs_
    simp only [List.cons_append, List.nil_append] at hfr_ hrs_
    subst hfr_ hrs_
    repeat (first | (apply G.ex (hd := rfl); case h => (first | exact Ex.move rfl)) | refine GC.seq ?_ | refine GC.region ?_ | refine GC.exit ?_ | refine GE.then_normal ?_ | refine GE.then_exit ?_ | refine GE.block_hit ?_ | refine GC.cond_f rfl ?_)
    refine G.appNil rfl rfl (by rfl) (by omega) rfl (rfl) (fun a5 c5 => ?_)
    repeat (first | fail)
    first | refine G.call (caps := []) (play_sp (.vec 32 3 a5 k c5 (flat eG A)) a5 k c5 A hAl (by omega) hA) rfl rfl rfl rfl (by repeat (first | exact Takes.nil | apply Takes.dup rfl | apply Takes.cons | exact Take1.here | apply Take1.there)) ?_ | refine G.callU (caps := []) (play_sp (.vec 32 3 a5 k c5 (flat eG A)) a5 k c5 A hAl (by omega) hA) rfl rfl rfl (by repeat (first | exact Takes.nil | apply Takes.dup rfl | apply Takes.cons | exact Take1.here | apply Take1.there)) ?_
    rintro v_ give_ ⟨T, o, onc, hT, rfl, rfl⟩ rs_ hrs_
    simp only [List.cons_append, List.nil_append] at hrs_
    subst hrs_
    obtain ⟨f1, hf1⟩ : ∃ f1, f1 = (onF newF []).1 := ⟨_, rfl⟩
    have hiv1 : Iv f1 := by rw [hf1]; exact Iv.more 6 _ _ Iv.new
    have hTc : T.map (·.t) = (onF newF []).2 :: runs f1 (A.map toG) := by rw [hT, hf1]; rfl
    have hTl : T.length = k + 1 := by
      have := congrArg List.length hTc
      rw [List.length_map, List.length_cons, runs_len, List.length_map, hAl] at this
      exact this
    have hT0 : (T.getD 0 default).t = (onF newF []).2 := by
      rw [← getD_mapT (fun x : NeM => x.t) T 0 (by omega), hTc]; rfl
    have hT6 : ((T.getD 0 default).t.wants.length : Int) = 6 := by rw [hT0, first_six.1]; rfl
    have hT6' : ((T.getD (0 : Int).toNat default).t.wants.length : Int) = 6 := hT6
    have hTi : ∀ i, i < k → (T.getD (i + 1) default).t = (gotF (ends f1 ((A.map toG).take i)) (toG (A.getD i default))).2 ∧ ends f1 ((A.map toG).take (i + 1)) = (gotF (ends f1 ((A.map toG).take i)) (toG (A.getD i default))).1 := by
      intro i hi
      have h1 := runs_at (A.map toG) f1 i (by rw [List.length_map]; omega)
      rw [getD_mapT _ _ _ (by omega)] at h1
      refine ⟨?_, h1.2⟩
      rw [← h1.1, ← getD_mapT (fun x : NeM => x.t) T (i + 1) (by omega), hTc]
      rw [List.getD_eq_getElem?_getD, List.getD_eq_getElem?_getD, List.getElem?_cons_succ]
    have hT1 : 0 < T.length := by omega
    have e66 : ¬ ¬ ((T.getD (0 : Int).toNat default).t.wants.length : Int) = 6 := fun h => h hT6'
    repeat (first | (apply G.ex (hd := rfl); case h => (first | exact Ex.move rfl | exact Ex.fieldE rfl | exact Ex.add rfl rfl (by omega) | exact Ex.neI rfl rfl | exact Ex.lenSl rfl | exact Ex.indexN rfl rfl (by first | omega | (simp; done) | (simp; omega)) | exact Ex.loadT rfl (by first | omega | (simp; done) | (simp; omega)) rfl | exact Ex.extract rfl rfl | exact Ex.assign rfl | exact Ex.pickF rfl (by first | assumption | omega) rfl)) | refine G.g_ff rfl rfl (by first | assumption | omega) ?_ | refine G.nil ?_ | refine GC.seq ?_ | refine GC.region ?_ | refine GC.block ?_ | refine GC.skip ?_ | refine GE.then_normal ?_ | refine GC.cond_no rfl (by first | assumption | omega) ?_)
    first | refine G.nilvec 32 3 ?_ | refine GC.nilvec 32 3 ?_
    first | refine G.nilvec 39 4 ?_ | refine GC.nilvec 39 4 ?_
    refine GC.conv (fun w_ H_ => Holds.rdNil eB 1 H_) ?_
    repeat (first | fail)
    refine GC.conv (rs' := [.vec 32 3 oa k oac (flat eG A), .per (Rd eB 1 (A.map (·.d))), .vec 39 4 o (k + 1) onc (flat eN T), .per (Rd eB 1 (T.map xF)), .sl a3 len3 cap3 1 (flat (eI .i64) z3), .vec 32 3 none (([] : List GoM)).length 0 (flat eG (([] : List GoM))), .per (Rd eB 1 ((([] : List GoM)).map (·.d))), .vec 39 4 none (([] : List NeM)).length 0 (flat eN (([] : List NeM))), .per (Rd eB 1 ((([] : List NeM)).map xF))] ++ rest) (fun w_ H_ => ?_) ?_
    · have h_ := H_.take (need := [.vec 32 3 oa k oac (flat eG A), .per (Rd eB 1 (A.map (·.d))), .vec 39 4 o (k + 1) onc (flat eN T), .per (Rd eB 1 (T.map xF)), .sl a3 len3 cap3 1 (flat (eI .i64) z3), .vec 32 3 none (([] : List GoM)).length 0 (flat eG (([] : List GoM))), .per (Rd eB 1 ((([] : List GoM)).map (·.d))), .vec 39 4 none (([] : List NeM)).length 0 (flat eN (([] : List NeM))), .per (Rd eB 1 ((([] : List NeM)).map xF))]) (by repeat (first | exact Takes.nil | apply Takes.dup rfl | apply Takes.cons | exact Take1.here | apply Take1.there))
      exact subs_app (by repeat (first | exact Subs.refl | refine Subs.skip ?_)) h_
    try simp only [List.append_eq, List.nil_append, List.cons_append]
    have hS0 : Same f1 (A.map toG) (2 * 0) 0 [] [] := ⟨by simp, rfl, fun m h => (nomatch h), rfl, rfl⟩
    refine GC.loop (ι := Nat × (List GoM × Option Addr × Nat) × (List NeM × Option Addr × Nat)) (fun x => x.1 ≤ k ∧ Same f1 (A.map toG) (2 * x.1) x.1 x.2.1.1 x.2.2.1) (fun x => k - x.1) (fun x => [(3, .slice a3 len3 cap3), (10, .slice oa k oac), (14, .slice o (k + 1) onc), (16, .slice x.2.1.2.1 x.2.1.1.length x.2.1.2.2), (17, .slice x.2.2.2.1 x.2.2.1.length x.2.2.2.2), (18, .int .i64 (x.1 : Int))]) (fun x => [.vec 32 3 oa k oac (flat eG A), .per (Rd eB 1 (A.map (·.d))), .vec 39 4 o (k + 1) onc (flat eN T), .per (Rd eB 1 (T.map xF)), .sl a3 len3 cap3 1 (flat (eI .i64) z3), .vec 32 3 x.2.1.2.1 (x.2.1.1).length x.2.1.2.2 (flat eG (x.2.1.1)), .per (Rd eB 1 ((x.2.1.1).map (·.d))), .vec 39 4 x.2.2.2.1 (x.2.2.1).length x.2.2.2.2 (flat eN (x.2.2.1)), .per (Rd eB 1 ((x.2.2.1).map xF))]) (0, ([], none, 0), ([], none, 0)) ⟨Nat.zero_le _, hS0⟩ (by simp only [fits]; repeat (first | exact trivial | refine And.intro rfl ?_)) (by repeat (first | exact Takes.nil | apply Takes.dup rfl | apply Takes.cons | exact Take1.here | apply Take1.there)) ?_
    rintro ⟨i, ⟨B, ob, obc⟩, ⟨W, ow, owc⟩⟩ ⟨hi, hS⟩ fr_ rs_ hfr_ hrs_
    simp only [List.cons_append, List.nil_append] at hfr_ hrs_
    subst hfr_ hrs_
    simp only at hi hS
    have hBle := hS.le
    have hBlen := hS.len
    repeat (first | (apply G.ex (hd := rfl); case h => (first | exact Ex.move rfl | exact Ex.lss rfl rfl | exact Ex.lenSl rfl)) | refine G.nil ?_ | refine GC.seq ?_ | refine GC.region ?_ | refine GE.then_normal ?_)
    refine GC.cond_dec rfl (fun hlt => ?_) (fun hlt => ?_)
    · have hlt : i < k := by omega
      obtain ⟨hx1, hx2⟩ := hTi i hlt
      have hAi := hA _ (getD_mem1 A i (by omega))
      have hTn : ((i : Int) + 1).toNat = i + 1 := by omega
      have hiv : Iv (ends f1 ((A.map toG).take (i + 1))) := Iv.ends hiv1
      have hTlt : i + 1 < T.length := by omega
      repeat ((fail_if_success (refine GC.block (id := 3) ?_)); first | refine GC.seq ?_ | refine GC.skip ?_ | refine GE.then_normal ?_)
      refine GC.block ?_
      refine GC.seq ?_
      refine GC.meet (ι := (List GoM × Option Addr × Nat) × (List NeM × Option Addr × Nat)) (fun x => Same f1 (A.map toG) (2 * i + 1) (i + 1) x.1.1 x.2.1) (fun x => [(3, .slice a3 len3 cap3), (10, .slice oa k oac), (14, .slice o (k + 1) onc), (16, .slice x.1.2.1 x.1.1.length x.1.2.2), (17, .slice x.2.2.1 x.2.1.length x.2.2.2), (18, .int .i64 (i : Int))]) (fun x => [.vec 32 3 oa k oac (flat eG A), .per (Rd eB 1 (A.map (·.d))), .vec 39 4 o (k + 1) onc (flat eN T), .per (Rd eB 1 (T.map xF)), .sl a3 len3 cap3 1 (flat (eI .i64) z3), .vec 32 3 x.1.2.1 (x.1.1).length x.1.2.2 (flat eG (x.1.1)), .per (Rd eB 1 ((x.1.1).map (·.d))), .vec 39 4 x.2.2.1 (x.2.1).length x.2.2.2 (flat eN (x.2.1)), .per (Rd eB 1 ((x.2.1).map xF))]) (.per (Rd eB 1 (A.map (·.d))) :: .per (Rd eB 1 (T.map xF)) :: .sl a3 len3 cap3 1 (flat (eI .i64) z3) :: .per (Rd eB 1 (([] : List GoM).map (·.d))) :: .per (Rd eB 1 (([] : List NeM).map xF)) :: rest) ?_ ?_
      · repeat (first | (apply G.ex (hd := rfl); case h => (first | exact Ex.move rfl | exact Ex.fieldE rfl | exact Ex.add rfl rfl (by omega) | exact Ex.eqI rfl rfl | exact Ex.indexN rfl rfl (by first | omega | (simp; done) | (simp; omega)) | exact Ex.loadT0 rfl (by first | omega | (simp; done) | (simp; omega)) rfl)) | refine G.nil ?_ | refine GC.seq ?_ | refine GC.region ?_ | refine GE.then_normal ?_)
        refine GC.cond_dec rfl (fun hc => ?_) (fun hc => ?_)
        · skip
          have hcat1 : flat eG B ++ flat eG [A.getD i default] = flat eG (B ++ [A.getD i default]) := (flat_append ..).symm
          have hcat2 : flat eN W ++ flat eN [T.getD (i + 1) default] = flat eN (W ++ [T.getD (i + 1) default]) := (flat_append ..).symm
          repeat (first | (apply G.ex (hd := rfl); case h => (first | exact Ex.move rfl | exact Ex.indexN rfl rfl (by first | omega | (simp; done) | (simp; omega)) | exact Ex.loadTA rfl (by first | omega | (simp; done) | (simp; omega)))) | refine GC.seq ?_ | refine GC.region ?_)
          refine G.lit (cells := flat eG [A.getD i default]) rfl (by rfl) (by rfl) (by rfl) (by rfl) (by rfl) (by rfl) rfl (fun q5 => ?_)
          refine G.app rfl rfl (by rfl) (by omega) rfl (hcat1) (fun o5 c6 rs_ hrs_ => ?_)
          try simp only at hrs_
          subst hrs_
          refine G.conv (fun w_ H_ => H_.rdAt (l := A.map (·.d)) (enc := eB) (s := 1) (by simp) i (by rw [List.length_map]; omega)) ?_
          rw [getD_mapT (fun x : GoM => x.d) A i (by omega)]
          refine G.conv (fun w_ H_ => Holds.rdSnoc (x := (A.getD i default).d) (H_.take (need := [.sl (A.getD i default).d.ao (A.getD i default).d.n (A.getD i default).d.c 1 (flat eB (A.getD i default).d.l), .per (Rd eB 1 (B.map (·.d)))]) (by repeat (first | exact Takes.nil | apply Takes.dup rfl | apply Takes.cons | exact Take1.here | apply Take1.there)))) ?_
          try simp only [List.append_eq, List.nil_append, List.cons_append]
          rw [show B.map (·.d) ++ [(A.getD i default).d] = (B ++ [A.getD i default]).map (·.d) by rw [List.map_append]; rfl]
          repeat (first | (apply G.ex (hd := rfl); case h => (first | exact Ex.move rfl | exact Ex.add rfl rfl (by omega) | exact Ex.indexN rfl rfl (by first | omega | (simp; done) | (simp; omega)) | exact Ex.assign rfl | exact Ex.loadTA rfl (by first | omega | (simp; done) | (simp; omega)))) | refine G.nil ?_ | refine GC.region ?_ | refine GE.then_normal ?_)
          refine G.lit (cells := flat eN [T.getD (i + 1) default]) rfl (by rfl) (by rfl) (by rfl) (by rfl) (by rfl) (by rfl) rfl (fun q6 => ?_)
          refine G.app rfl rfl (by rfl) (by omega) rfl (hcat2) (fun o6 c7 rs_ hrs_ => ?_)
          try simp only at hrs_
          subst hrs_
          refine G.conv (fun w_ H_ => H_.rdAt (l := T.map xF) (enc := eB) (s := 1) (by simp) (i + 1) (by rw [List.length_map]; omega)) ?_
          rw [getD_mapT xF T (i + 1) (by omega)]
          refine G.conv (fun w_ H_ => Holds.rdSnoc (x := xF (T.getD (i + 1) default)) (H_.take (need := [.sl (xF (T.getD (i + 1) default)).ao (xF (T.getD (i + 1) default)).n (xF (T.getD (i + 1) default)).c 1 (flat eB (xF (T.getD (i + 1) default)).l), .per (Rd eB 1 (W.map xF))]) (by repeat (first | exact Takes.nil | apply Takes.dup rfl | apply Takes.cons | exact Take1.here | apply Take1.there)))) ?_
          try simp only [List.append_eq, List.nil_append, List.cons_append]
          rw [show W.map xF ++ [xF (T.getD (i + 1) default)] = (W ++ [T.getD (i + 1) default]).map xF by rw [List.map_append]; rfl]
          rw [show B.length + 1 = (B ++ [A.getD i default]).length by rw [List.length_append]; rfl, show W.length + 1 = (W ++ [T.getD (i + 1) default]).length by rw [List.length_append]; rfl]
          repeat (first | (apply G.ex (hd := rfl); case h => (first | exact Ex.assign rfl)) | refine G.nil ?_)
          refine GE.meet ((B ++ [A.getD i default], o5, c6), (W ++ [T.getD (i + 1) default], o6, c7)) (hS.more _ _ hAi (i + 1) hx2.symm hx1) (by simp only [fits]; repeat (first | exact trivial | refine And.intro rfl ?_)) (by repeat (first | exact Takes.nil | apply Takes.dup rfl | apply Takes.cons | exact Take1.here | apply Take1.there)) (by repeat (first | exact Subs.refl | refine Subs.skip ?_))
        · rw [hx1] at hc
          have hsame : (gotF (ends f1 ((A.map toG).take i)) (toG (A.getD i default))).1 = ends f1 ((A.map toG).take i) := by
            rcases got_cases (ends f1 ((A.map toG).take i)) (toG (A.getD i default)) with ⟨h, _⟩ | ⟨h, _⟩
            · exact h
            · exact absurd h hc
          have hS' : Same f1 (A.map toG) (2 * i + 1) (i + 1) B W := ⟨by omega, hBlen, hS.ok, by rw [hS.ends, hx2, hsame], hS.runs⟩
          repeat (first | refine GC.skip ?_)
          refine GE.meet ((B, ob, obc), (W, ow, owc)) hS' (by simp only [fits]; repeat (first | exact trivial | refine And.intro rfl ?_)) (by repeat (first | exact Takes.nil | apply Takes.dup rfl | apply Takes.cons | exact Take1.here | apply Take1.there)) (by repeat (first | exact Subs.refl | refine Subs.skip ?_))
      rintro ⟨⟨B1, ob1, obc1⟩, ⟨W1, ow1, owc1⟩⟩ hS1 fr_ rs_ hfr_ hrs_
      simp only [List.cons_append, List.nil_append] at hfr_ hrs_
      subst hfr_ hrs_
      simp only at hS1
      have hB1le := hS1.le
      have hB1len := hS1.len
      repeat (first | (apply G.ex (hd := rfl); case h => (first | exact Ex.move rfl | exact Ex.lss rfl rfl | exact Ex.lenSl rfl)) | refine G.nil ?_ | refine GC.seq ?_ | refine GC.region ?_ | refine GE.then_normal ?_)
      refine GC.cond_dec rfl (fun hodd => ?_) (fun hodd => ?_)
      · have hodd : i < len3 := by omega
        have hz := hw3 (z3.getD i default) (getD_mem1 _ _ (by omega))
        have p1 := Int.emod_nonneg (z3.getD i default) (show (99 : Int) ≠ 0 by omega)
        have p2 := Int.emod_lt_of_pos (z3.getD i default) (show (0 : Int) < 99 by omega)
        repeat (first | (apply G.ex (hd := rfl); case h => (first | exact Ex.move rfl | exact Ex.indexN rfl rfl (by first | omega | (simp; done) | (simp; omega)) | exact Ex.loadT0 rfl (by first | omega | (simp; done) | (simp; omega)) rfl)) | refine GC.seq ?_ | refine GC.region ?_)
        first | refine G.call (caps := []) (picked_sp (z3.getD i default) 99 (by omega) (by omega)) rfl rfl rfl rfl (by repeat (first | exact Takes.nil | apply Takes.dup rfl | apply Takes.cons | exact Take1.here | apply Take1.there)) ?_ | refine G.callU (caps := []) (picked_sp (z3.getD i default) 99 (by omega) (by omega)) rfl rfl rfl (by repeat (first | exact Takes.nil | apply Takes.dup rfl | apply Takes.cons | exact Take1.here | apply Take1.there)) ?_
        rintro v_ give_ ⟨rfl, rfl⟩ rs_ hrs_
        simp only [List.cons_append, List.nil_append] at hrs_
        subst hrs_
        have ho := odd_no hiv (z3.getD i default)
        obtain ⟨om, hom⟩ : ∃ om : GoM, om = ⟨1 + z3.getD i default % 99, 100, ⟨none, 0, 0, []⟩⟩ := ⟨_, rfl⟩
        have hcat1 : flat eG B1 ++ flat eG [om] = flat eG (B1 ++ [om]) := (flat_append ..).symm
        have hcat2 : flat eN W1 ++ flat eN [sentM] = flat eN (W1 ++ [sentM]) := (flat_append ..).symm
        repeat (first | (apply G.ex (hd := rfl); case h => (first | exact Ex.add rfl rfl (by omega) | exact Ex.build rfl rfl)))
        refine G.lit (cells := flat eG [(⟨1 + z3.getD i default % 99, 100, ⟨none, 0, 0, []⟩⟩ : GoM)]) rfl (by rfl) (by rfl) (by rfl) (by rfl) (by rfl) (by rfl) rfl (fun q5 => ?_)
        rw [← hom]
        refine G.app rfl rfl (by rfl) (by omega) rfl (hcat1) (fun o5 c6 rs_ hrs_ => ?_)
        try simp only at hrs_
        subst hrs_
        repeat (first | (apply G.ex (hd := rfl); case h => (first | exact Ex.move rfl | exact Ex.assign rfl | exact Ex.build rfl rfl)) | refine G.nil ?_ | refine GC.region ?_ | refine GE.then_normal ?_)
        refine G.lit (cells := flat eN [sentM]) rfl (by rfl) (by rfl) (by rfl) (by rfl) (by rfl) (by rfl) rfl (fun q6 => ?_)
        refine G.app rfl rfl (by rfl) (by omega) rfl (hcat2) (fun o6 c7 rs_ hrs_ => ?_)
        try simp only at hrs_
        subst hrs_
        first | refine G.nilvec 5 1 ?_ | refine GC.nilvec 5 1 ?_
        first | refine G.frz none ?_ | refine GC.frz none ?_ | refine GE.frz none ?_
        refine G.conv (fun w_ H_ => Holds.rdSnoc (x := ⟨none, 0, 0, []⟩) (H_.take (need := [.sl none 0 0 1 [], .per (Rd eB 1 (B1.map (·.d)))]) (by repeat (first | exact Takes.nil | apply Takes.dup rfl | apply Takes.cons | exact Take1.here | apply Take1.there)))) ?_
        try simp only [List.append_eq, List.nil_append, List.cons_append]
        rw [show B1.map (·.d) ++ [⟨none, 0, 0, []⟩] = (B1 ++ [om]).map (·.d) by rw [List.map_append, hom]; rfl]
        refine G.conv (fun w_ H_ => Holds.rdSnoc (x := ⟨none, 0, 0, []⟩) (H_.take (need := [.sl none 0 0 1 [], .per (Rd eB 1 (W1.map xF))]) (by repeat (first | exact Takes.nil | apply Takes.dup rfl | apply Takes.cons | exact Take1.here | apply Take1.there)))) ?_
        try simp only [List.append_eq, List.nil_append, List.cons_append]
        rw [show W1.map xF ++ [⟨none, 0, 0, []⟩] = (W1 ++ [sentM]).map xF by rw [List.map_append]; rfl]
        rw [show B1.length + 1 = (B1 ++ [om]).length by rw [List.length_append]; rfl, show W1.length + 1 = (W1 ++ [sentM]).length by rw [List.length_append]; rfl]
        have hS2 : Same f1 (A.map toG) (2 * (i + 1)) (i + 1) (B1 ++ [om]) (W1 ++ [sentM]) := hS1.more om sentM (by rw [hom]; exact ⟨rfl, by simp only; omega, by simp, by simp⟩) (i + 1) (by rw [hom]; show (gotF _ ⟨1 + z3.getD i default % 99, 100, []⟩).1 = _; rw [ho]) (by rw [hom]; show _ = (gotF _ ⟨1 + z3.getD i default % 99, 100, []⟩).2; rw [ho]; rfl)
        repeat (first | (apply G.ex (hd := rfl); case h => (first | exact Ex.move rfl | exact Ex.add rfl rfl (by omega) | exact Ex.assign rfl)) | refine G.nil ?_ | refine GC.region ?_ | refine GE.then_normal ?_ | refine GE.block_normal ?_)
        rw [show (i : Int) + 1 = ((i + 1 : Nat) : Int) by omega]
        refine GE.loop (i + 1, (B1 ++ [om], o5, c6), (W1 ++ [sentM], o6, c7)) ⟨by simp only; omega, hS2⟩ (by simp only; omega) (by simp only [fits]; repeat (first | exact trivial | refine And.intro rfl ?_)) (by repeat (first | exact Takes.nil | apply Takes.dup rfl | apply Takes.cons | exact Take1.here | apply Take1.there)) (by repeat (first | exact Subs.refl | refine Subs.skip ?_))
      · have hS2 : Same f1 (A.map toG) (2 * (i + 1)) (i + 1) B1 W1 := ⟨by omega, hB1len, hS1.ok, hS1.ends, hS1.runs⟩
        repeat (first | (apply G.ex (hd := rfl); case h => (first | exact Ex.move rfl | exact Ex.add rfl rfl (by omega) | exact Ex.assign rfl)) | refine G.nil ?_ | refine GC.region ?_ | refine GC.skip ?_ | refine GE.then_normal ?_ | refine GE.block_normal ?_)
        rw [show (i : Int) + 1 = ((i + 1 : Nat) : Int) by omega]
        refine GE.loop (i + 1, (B1, ob1, obc1), (W1, ow1, owc1)) ⟨by simp only; omega, hS2⟩ (by simp only; omega) (by simp only [fits]; repeat (first | exact trivial | refine And.intro rfl ?_)) (by repeat (first | exact Takes.nil | apply Takes.dup rfl | apply Takes.cons | exact Take1.here | apply Take1.there)) (by repeat (first | exact Subs.refl | refine Subs.skip ?_))
    · repeat (first | (apply G.ex (hd := rfl); case h => (first | exact Ex.move rfl)) | refine GC.seq ?_ | refine GC.region ?_ | refine GC.exit ?_ | refine GE.then_normal ?_ | refine GE.then_exit ?_ | refine GE.block_hit ?_)
      first | refine G.call (caps := []) (play_sp (.vec 32 3 ob B.length obc (flat eG B)) ob B.length obc B rfl (by omega) hS.ok) rfl rfl rfl rfl (by repeat (first | exact Takes.nil | apply Takes.dup rfl | apply Takes.cons | exact Take1.here | apply Take1.there)) ?_ | refine G.callU (caps := []) (play_sp (.vec 32 3 ob B.length obc (flat eG B)) ob B.length obc B rfl (by omega) hS.ok) rfl rfl rfl (by repeat (first | exact Takes.nil | apply Takes.dup rfl | apply Takes.cons | exact Take1.here | apply Take1.there)) ?_
      rintro v_ give_ ⟨T2, oy, oyc, hT2, rfl, rfl⟩ rs_ hrs_
      simp only [List.cons_append, List.nil_append] at hrs_
      subst hrs_
      have hT2c : T2.map (·.t) = (onF newF []).2 :: W.map (·.t) := by rw [hT2, ← hS.runs, hf1]; rfl
      have hT2l : T2.length = B.length + 1 := by
        have := congrArg List.length hT2c
        rw [List.length_map, List.length_cons, List.length_map] at this
        omega
      have hT2i : ∀ j, j < B.length → (T2.getD (j + 1) default).t = (W.getD j default).t := by
        intro j hj
        rw [← getD_mapT (fun x : NeM => x.t) T2 (j + 1) (by omega), ← getD_mapT (fun x : NeM => x.t) W j (by omega), hT2c]
        rw [List.getD_eq_getElem?_getD, List.getD_eq_getElem?_getD, List.getElem?_cons_succ]
      repeat (first | (apply G.ex (hd := rfl); case h => (first | exact Ex.move rfl | exact Ex.add rfl rfl (by omega) | exact Ex.neI rfl rfl | exact Ex.lenSl rfl | exact Ex.extract rfl rfl | exact Ex.assign rfl | exact Ex.pickF rfl (by first | assumption | omega) rfl)) | refine G.g_ff rfl rfl (by first | assumption | omega) ?_ | refine G.nil ?_ | refine GC.seq ?_ | refine GC.region ?_ | refine GC.block ?_ | refine GC.skip ?_ | refine GE.then_normal ?_ | refine GC.cond_no rfl (by first | assumption | omega) ?_)
      refine GC.conv (rs' := [.vec 39 4 oy (B.length + 1) oyc (flat eN T2), .per (Rd eB 1 (T2.map xF)), .vec 39 4 ow W.length owc (flat eN W), .per (Rd eB 1 (W.map xF))] ++ rest) (fun w_ H_ => ?_) ?_
      · have h_ := H_.take (need := [.vec 39 4 oy (B.length + 1) oyc (flat eN T2), .per (Rd eB 1 (T2.map xF)), .vec 39 4 ow W.length owc (flat eN W), .per (Rd eB 1 (W.map xF))]) (by repeat (first | exact Takes.nil | apply Takes.dup rfl | apply Takes.cons | exact Take1.here | apply Take1.there))
        exact subs_app (by repeat (first | exact Subs.refl | refine Subs.skip ?_)) h_
      try simp only [List.append_eq, List.nil_append, List.cons_append]
      refine GC.loop (ι := Nat) (fun j => j ≤ B.length) (fun j => B.length - j) (fun j => [(16, .slice ob B.length obc), (17, .slice ow W.length owc), (19, .slice oy (B.length + 1) oyc), (21, .int .i64 (j : Int))]) (fun _ => [.vec 39 4 oy (B.length + 1) oyc (flat eN T2), .per (Rd eB 1 (T2.map xF)), .vec 39 4 ow W.length owc (flat eN W), .per (Rd eB 1 (W.map xF))]) 0 (Nat.zero_le _) (by simp only [fits]; repeat (first | exact trivial | refine And.intro rfl ?_)) (by repeat (first | exact Takes.nil | apply Takes.dup rfl | apply Takes.cons | exact Take1.here | apply Take1.there)) ?_
      rintro j hj fr_ rs_ hfr_ hrs_
      simp only [List.cons_append, List.nil_append] at hfr_ hrs_
      subst hfr_ hrs_
      repeat (first | (apply G.ex (hd := rfl); case h => (first | exact Ex.move rfl | exact Ex.lss rfl rfl | exact Ex.lenSl rfl)) | refine G.nil ?_ | refine GC.seq ?_ | refine GC.region ?_ | refine GE.then_normal ?_)
      refine GC.cond_dec rfl (fun hjl => ?_) (fun hjl => ?_)
      · have hjl : j < B.length := by omega
        have hjn : ((j : Int) + 1).toNat = j + 1 := by omega
        have hpq := hT2i j hjl
        have e1 : ¬ ¬ (T2.getD (j + 1) default).t.code = (W.getD j default).t.code := fun h => h (by rw [hpq])
        have e2 : ¬ ¬ (T2.getD (j + 1) default).t.done = (W.getD j default).t.done := fun h => h (by rw [hpq])
        have e3 : ¬ ¬ ((T2.getD (j + 1) default).t.wants.length : Int) = ((W.getD j default).t.wants.length : Int) := fun h => h (by rw [hpq])
        have hT2lt : j + 1 < T2.length := by omega
        have hWlt : j < W.length := by omega
        refine GC.conv (fun w_ H_ => H_.rdAt (l := T2.map xF) (enc := eB) (s := 1) (by simp) (j + 1) (by rw [List.length_map]; omega)) ?_
        refine GC.conv (fun w_ H_ => H_.rdAt (l := W.map xF) (enc := eB) (s := 1) (by simp) j (by rw [List.length_map]; omega)) ?_
        rw [getD_mapT xF T2 (j + 1) (by omega), getD_mapT xF W j (by omega)]
        simp only [xF]
        repeat (first | (apply G.ex (hd := rfl); case h => (first | exact Ex.move rfl | exact Ex.add rfl rfl (by omega) | exact Ex.indexN rfl rfl (by first | omega | (simp; done) | (simp; omega)) | exact Ex.loadTA rfl (by first | omega | (simp; done) | (simp; omega)))) | refine GC.seq ?_ | refine GC.region ?_ | refine GC.block ?_ | refine GC.skip ?_ | refine GE.then_normal ?_)
        refine G.alloc rfl (fun pb => ?_)
        repeat (first | refine G.storeBA rfl rfl rfl rfl rfl ?_ | (apply G.ex (hd := rfl); case h => (first | exact Ex.move rfl | exact Ex.indexN rfl rfl (by first | omega | (simp; done) | (simp; omega)) | exact Ex.loadTA rfl (by first | omega | (simp; done) | (simp; omega)))) | refine G.nil ?_ | refine GC.seq ?_ | refine GC.region ?_ | refine GE.then_normal ?_)
        refine G.alloc rfl (fun qb => ?_)
        repeat (first | refine G.storeBA rfl rfl rfl rfl rfl ?_ | (apply G.ex (hd := rfl); case h => (first | exact Ex.move rfl | exact Ex.fieldB rfl | exact Ex.loadB rfl rfl | exact Ex.neI rfl rfl | exact Ex.neB rfl rfl | exact Ex.pickF rfl (by first | assumption | omega) rfl)) | refine G.g_ff rfl rfl (by first | assumption | omega) ?_ | refine G.nil ?_ | refine GC.seq ?_ | refine GC.region ?_ | refine GE.then_normal ?_)
        refine G.len (m := (T2.getD (j + 1) default).t.data.length) (c := (T2.getD (j + 1) default).xc) (T2.getD (j + 1) default).xo fun ⟨_, u1, u2⟩ => ?_
        refine G.len (m := (W.getD j default).t.data.length) (c := (W.getD j default).xc) (W.getD j default).xo fun ⟨_, u3, u4⟩ => ?_
        first | refine G.call (caps := []) (sameBytes_sp (.sl (T2.getD (j + 1) default).xo (T2.getD (j + 1) default).t.data.length (T2.getD (j + 1) default).xc 1 (flat eB (T2.getD (j + 1) default).t.data)) (.sl (W.getD j default).xo (W.getD j default).t.data.length (W.getD j default).xc 1 (flat eB (W.getD j default).t.data)) (T2.getD (j + 1) default).xo (W.getD j default).xo (T2.getD (j + 1) default).t.data.length (T2.getD (j + 1) default).xc (W.getD j default).t.data.length (W.getD j default).xc (T2.getD (j + 1) default).t.data (W.getD j default).t.data rfl rfl (by unfold maxLen at u2; omega) (by unfold maxLen at u4; omega)) rfl rfl rfl rfl (by repeat (first | exact Takes.nil | apply Takes.dup rfl | apply Takes.cons | exact Take1.here | apply Take1.there)) ?_ | refine G.callU (caps := []) (sameBytes_sp (.sl (T2.getD (j + 1) default).xo (T2.getD (j + 1) default).t.data.length (T2.getD (j + 1) default).xc 1 (flat eB (T2.getD (j + 1) default).t.data)) (.sl (W.getD j default).xo (W.getD j default).t.data.length (W.getD j default).xc 1 (flat eB (W.getD j default).t.data)) (T2.getD (j + 1) default).xo (W.getD j default).xo (T2.getD (j + 1) default).t.data.length (T2.getD (j + 1) default).xc (W.getD j default).t.data.length (W.getD j default).xc (T2.getD (j + 1) default).t.data (W.getD j default).t.data rfl rfl (by unfold maxLen at u2; omega) (by unfold maxLen at u4; omega)) rfl rfl rfl (by repeat (first | exact Takes.nil | apply Takes.dup rfl | apply Takes.cons | exact Take1.here | apply Take1.there)) ?_
        rintro v_ give_ ⟨rfl, rfl⟩ rs_ hrs_
        simp only [List.cons_append, List.nil_append] at hrs_
        subst hrs_
        rw [decide_eq_true (show (T2.getD (j + 1) default).t.data = (W.getD j default).t.data by rw [hpq])]
        repeat (first | (apply G.ex (hd := rfl); case h => (first | exact Ex.move rfl | exact Ex.fieldB rfl | exact Ex.loadB rfl rfl | exact Ex.add rfl rfl (by omega) | exact Ex.neI rfl rfl | exact Ex.lenSl rfl | exact Ex.assign rfl | exact Ex.notB rfl | exact Ex.pickF rfl (by first | assumption | omega) rfl)) | refine G.g_ff rfl rfl (by first | assumption | omega) ?_ | refine G.nil ?_ | refine GC.region ?_ | refine GC.skip ?_ | refine GE.then_normal ?_ | refine GE.block_normal ?_ | refine GC.cond_no rfl (by first | assumption | omega) ?_)
        rw [show (j : Int) + 1 = ((j + 1 : Nat) : Int) by omega]
        refine GE.loop (j + 1) (by omega) (by omega) (by simp only [fits]; repeat (first | exact trivial | refine And.intro rfl ?_)) (by repeat (first | exact Takes.nil | apply Takes.dup rfl | apply Takes.cons | exact Take1.here | apply Take1.there)) (by repeat (first | exact Subs.refl | refine Subs.skip ?_))
      · repeat (first | (apply G.ex (hd := rfl); case h => (first | exact Ex.assign rfl)) | refine G.nil ?_ | refine GC.seq ?_ | refine GC.region ?_ | refine GC.ret ?_ | refine GC.exit ?_ | refine GE.then_normal ?_ | refine GE.then_exit ?_ | refine GE.block_hit ?_)
        refine GE.ret (by first | exact .inl rfl | exact .inr rfl) (by first | exact res0 Try.results4 | exact res1 Try.results4 rfl | exact res2 Try.results4 rfl rfl | exact resR1 Try.results4 (by first | exact RV.tmp rfl | exact RV.cell rfl (eP_len _) | exact RV.cell rfl rfl | exact RV.cell1 rfl) | exact resR2 Try.results4 (by first | exact RV.tmp rfl | exact RV.cell rfl (eP_len _) | exact RV.cell rfl rfl | exact RV.cell1 rfl) (by first | exact RV.tmp rfl | exact RV.cell rfl (eP_len _) | exact RV.cell rfl rfl | exact RV.cell1 rfl) | exact resR3 Try.results4 (by first | exact RV.tmp rfl | exact RV.cell rfl (eP_len _) | exact RV.cell rfl rfl | exact RV.cell1 rfl) (by first | exact RV.tmp rfl | exact RV.cell rfl (eP_len _) | exact RV.cell rfl rfl | exact RV.cell1 rfl) (by first | exact RV.tmp rfl | exact RV.cell rfl (eP_len _) | exact RV.cell rfl rfl | exact RV.cell1 rfl)) ⟨rfl, rfl⟩ (by repeat (first | exact Takes.nil | apply Takes.dup rfl | apply Takes.cons | exact Take1.here | apply Take1.there)) (by repeat (first | exact Subs.refl | refine Subs.skip ?_))
end fetch
end Go.Proofs.Ytpeidlaejjfmeaa
