/-
  CONTRACTS of delta.alike, seeds and Delta, by the kit.
-/
import Derived.Test.YtmceappjldcbmaaDoorPatchS
import Derived.Test.YtmceappjldcbmaaDoorKitN1
namespace Go.Proofs.YtmceappjldcbmaaDoor
open Go.RowKit
attribute [local irreducible] Ex G GC GE Gq FPost LPost
set_option linter.unusedVariables false
set_option linter.unusedSimpArgs false
instance : Zer Tryd.prog 41 (.slice none 0 0) := ⟨by kernel_rfl⟩
instance keyStrT : KeyK Tryd.prog 9 eStr := keyStr inferInstance

namespace delta
abbrev FS := List (ByteArray × SlD Nat)
def fcS (F : FS) : List (ByteArray × Value) := F.map fun e => (e.1, .slice e.2.ao e.2.n e.2.c)
def vecS (s : SlD Nat) : Res := .vec 3 1 s.ao s.n s.c (flat eN s.l)
def svec (F : FS) : List Res := F.map fun e => vecS e.2
theorem lookS (k : ByteArray) : ∀ (F : FS) (i : Nat), lookI k (fcS F) i = none ∨ ∃ j s, lookI k (fcS F) i = some (i + j, .slice s.ao s.n s.c) ∧ F[j]? = some (k, s)
  | [], i => .inl rfl
  | e :: t, i => by
    by_cases hk : k = e.1
    · exact .inr ⟨0, e.2, by simp [fcS, lookI, hk], by simp [hk]⟩
    · rcases lookS k t (i + 1) with h | ⟨j, s, h1, h2⟩
      · left; simp only [fcS, List.map_cons, lookI, if_neg hk]; exact h
      · refine .inr ⟨j + 1, s, ?_, by simpa using h2⟩
        simp only [fcS, List.map_cons, lookI, if_neg hk]
        rw [show i + (j + 1) = i + 1 + j by omega]; exact h1
theorem take_eq {a b : List UInt8} {k : Nat} (h : a.take k = b.take k) (ha : k < a.length) (hb : k < b.length) (hx : a.getD k default = b.getD k default) : a.take (k + 1) = b.take (k + 1) := by
  rw [take_snoc' a k ha, take_snoc' b k hb, h, hx]
set_option maxHeartbeats 4000000 in
theorem alike_sp (ao bo : Option Addr) (n c m d : Nat) (a b : List UInt8) (ha : a.length = n) (hb : b.length = m) (hn : n ≤ 100000) (hm : m ≤ 100000) :
    Spec Tryd.prog 22 [.slice ao n c, .slice bo m d] [.sl ao n c 1 (flat eB a), .sl bo m d 1 (flat eB b)] fun v give => ∃ k : Nat, v = .int .i64 (k : Int) ∧ k ≤ n ∧ k ≤ m ∧ a.take k = b.take k ∧ give = [] := by
  refine Spec.intro Tryd.func22 rfl Tryd.ntmps22 rfl fun w0 rest rs_ hrs_ => ?_
  simp only [List.cons_append, List.nil_append] at hrs_
  subst hrs_
  repeat (first | (apply G.ex (hd := rfl); case h => (first | exact Ex.assign rfl)) | refine G.nil ?_ | refine GC.seq ?_ | refine GC.region ?_ | refine GC.block ?_ | refine GE.then_normal ?_)
  refine GC.loop (ι := Nat) (fun k => k ≤ n ∧ k ≤ m ∧ a.take k = b.take k) (fun k => n - k) (fun k => [(0, .slice ao n c), (1, .slice bo m d), (5, .int .i64 (k : Int))]) (fun k => [.sl ao n c 1 (flat eB a), .sl bo m d 1 (flat eB b)]) 0 ⟨Nat.zero_le _, Nat.zero_le _, rfl⟩ (by simp only [fits]; repeat (first | exact trivial | refine And.intro rfl ?_)) (by repeat first | exact tn_ | apply td_ rfl | apply tc_ | exact .here | apply Take1.there) ?_
  rintro k ⟨hk1, hk2, he⟩ fr_ rs_ hfr_ hrs_
  simp only [List.cons_append, List.nil_append] at hfr_ hrs_
  subst hfr_ hrs_
  by_cases h1 : k < n
  · by_cases h2 : k < m
    · by_cases h3 : a.getD k default = b.getD k default
      · have he' := take_eq he (by omega) (by omega) h3
        clear he
        repeat (first | (apply G.ex (hd := rfl); case h => (first | exact Ex.move rfl | exact Ex.add rfl rfl (by omega) | exact Ex.assign rfl)) | refine G.nil ?_ | (apply Gq.ex (hd := rfl); case h => (first | exact Ex.move rfl | exact Ex.lss rfl rfl | exact Ex.eqBy rfl rfl | exact Ex.lenSl rfl | exact Ex.indexN rfl rfl (by first | omega | (simp; done) | (simp; omega)) | exact Ex.loadT0 rfl (by first | omega | (simp; done) | (simp; omega)) rfl | exact Ex.pickT rfl (by first | assumption | omega) rfl)) | refine Gq.g_tt rfl rfl (by first | assumption | omega) ?_ | refine Gq.nil ?_ | refine GC.seq ?_ | refine GC.region ?_ | refine GC.draw (by kernel_rfl) (by kernel_rfl) ?_ | refine GC.block ?_ | refine GC.skip ?_ | refine GE.then_normal ?_ | refine GE.block_normal ?_ | refine GC.cond_yes rfl (by first | assumption | omega) ?_)
        refine GE.loop (k + 1) ⟨by omega, by omega, he'⟩ (by omega) (by simp only [fits]; repeat (first | exact trivial | refine And.intro rfl ?_)) (by repeat first | exact tn_ | apply td_ rfl | apply tc_ | exact .here | apply Take1.there) (by repeat (first | exact Subs.refl | refine Subs.skip ?_))
      · repeat (first | (apply G.ex (hd := rfl); case h => (first | exact Ex.move rfl | exact Ex.assign rfl)) | refine G.nil ?_ | (apply Gq.ex (hd := rfl); case h => (first | exact Ex.move rfl | exact Ex.lss rfl rfl | exact Ex.eqBy rfl rfl | exact Ex.lenSl rfl | exact Ex.indexN rfl rfl (by first | omega | (simp; done) | (simp; omega)) | exact Ex.loadT0 rfl (by first | omega | (simp; done) | (simp; omega)) rfl | exact Ex.pickT rfl (by first | assumption | omega) rfl)) | refine Gq.g_tt rfl rfl (by first | assumption | omega) ?_ | refine Gq.nil ?_ | refine GC.seq ?_ | refine GC.region ?_ | refine GC.draw (by kernel_rfl) (by kernel_rfl) ?_ | refine GC.ret ?_ | refine GC.exit ?_ | refine GE.then_normal ?_ | refine GE.then_exit ?_ | refine GE.block_hit ?_ | refine GC.cond_no rfl (by first | assumption | omega) ?_)
        refine GE.ret (by first | exact .inl rfl | exact .inr rfl) (res1 Tryd.results22 rfl) ⟨k, rfl, hk1, hk2, he, rfl⟩ (by repeat first | exact tn_ | apply td_ rfl | apply tc_ | exact .here | apply Take1.there) (by repeat (first | exact Subs.refl | refine Subs.skip ?_))
    · repeat (first | (apply G.ex (hd := rfl); case h => (first | exact Ex.move rfl | exact Ex.assign rfl)) | refine G.nil ?_ | (apply Gq.ex (hd := rfl); case h => (first | exact Ex.move rfl | exact Ex.lss rfl rfl | exact Ex.lenSl rfl | exact Ex.pickT rfl (by first | assumption | omega) rfl | exact Ex.pickF rfl (by first | assumption | omega) rfl)) | refine Gq.g_tt rfl rfl (by first | assumption | omega) ?_ | refine Gq.g_tf rfl rfl (by first | assumption | omega) rfl ?_ | refine Gq.nil ?_ | refine GC.seq ?_ | refine GC.region ?_ | refine GC.draw (by kernel_rfl) (by kernel_rfl) ?_ | refine GC.ret ?_ | refine GC.exit ?_ | refine GE.then_normal ?_ | refine GE.then_exit ?_ | refine GE.block_hit ?_ | refine GC.cond_f rfl ?_)
      refine GE.ret (by first | exact .inl rfl | exact .inr rfl) (res1 Tryd.results22 rfl) ⟨k, rfl, hk1, hk2, he, rfl⟩ (by repeat first | exact tn_ | apply td_ rfl | apply tc_ | exact .here | apply Take1.there) (by repeat (first | exact Subs.refl | refine Subs.skip ?_))
  · repeat (first | (apply G.ex (hd := rfl); case h => (first | exact Ex.move rfl | exact Ex.assign rfl)) | refine G.nil ?_ | (apply Gq.ex (hd := rfl); case h => (first | exact Ex.move rfl | exact Ex.lss rfl rfl | exact Ex.lenSl rfl | exact Ex.pickF rfl (by first | assumption | omega) rfl | exact Ex.pickLF rfl rfl)) | refine Gq.g_tf rfl rfl (by first | assumption | omega) rfl ?_ | refine Gq.l_tf rfl rfl rfl ?_ | refine Gq.nil ?_ | refine GC.seq ?_ | refine GC.region ?_ | refine GC.draw (by kernel_rfl) (by kernel_rfl) ?_ | refine GC.ret ?_ | refine GC.exit ?_ | refine GE.then_normal ?_ | refine GE.then_exit ?_ | refine GE.block_hit ?_ | refine GC.cond_f rfl ?_)
    refine GE.ret (by first | exact .inl rfl | exact .inr rfl) (res1 Tryd.results22 rfl) ⟨k, rfl, hk1, hk2, he, rfl⟩ (by repeat first | exact tn_ | apply td_ rfl | apply tc_ | exact .here | apply Take1.there) (by repeat (first | exact Subs.refl | refine Subs.skip ?_))
set_option maxHeartbeats 4000000 in
theorem seeds_sp (ao : Option Addr) (m c : Nat) (old : List UInt8) (hold : old.length = m) (hm : m ≤ 2048) :
    Spec Tryd.prog 21 [.slice ao m c] [.sl ao m c 1 (flat eB old)]
      fun v give => ∃ mb F, v = .map (some mb) ∧ (∀ e ∈ F, e.2.n ≤ 2048 ∧ ∀ p ∈ e.2.l, p + 8 ≤ m) ∧ give = [.own (MapR eStr mb (fcS F)), .own (Star (svec F))] := by
  refine Spec.intro Tryd.func21 rfl Tryd.ntmps21 rfl fun w0 rest rs_ hrs_ => ?_
  simp only [List.cons_append, List.nil_append] at hrs_
  subst hrs_
  repeat (first | (apply G.ex (hd := rfl); case h => (first | exact Ex.assign rfl)) | refine G.nil ?_ | refine GC.seq ?_ | refine GC.region ?_ | refine GE.then_normal ?_)
  refine G.makeMap eStr rfl (fun mb => ?_)
  repeat (first | (apply G.ex (hd := rfl); case h => (first | exact Ex.assign rfl)) | refine G.nil ?_ | refine GC.seq ?_ | refine GC.region ?_ | refine GC.block ?_ | refine GE.then_normal ?_)
  refine GC.conv (fun w_ H_ => H_.starNil) ?_
  refine GC.loop (ι := Nat × FS) (fun i => i.1 ≤ m ∧ ∀ e ∈ i.2, e.2.n ≤ i.1 ∧ ∀ p ∈ e.2.l, p + 8 ≤ m) (fun i => m - i.1) (fun i => [(0, .slice ao m c), (3, .map (some mb)), (4, .int .i64 (i.1 : Int))]) (fun i => [.own (MapR eStr mb (fcS i.2)), .own (Star (svec i.2)), .sl ao m c 1 (flat eB old)]) (0, []) ⟨Nat.zero_le _, fun e he => by simp at he⟩ (by simp only [fits]; repeat (first | exact trivial | refine And.intro rfl ?_)) (by repeat first | exact tn_ | apply td_ rfl | apply tc_ | exact .here | apply Take1.there) ?_
  rintro ⟨i, F⟩ ⟨hi, hF⟩ fr_ rs_ hfr_ hrs_
  simp only [List.cons_append, List.nil_append] at hfr_ hrs_
  subst hfr_ hrs_
  simp only at hi hF
  repeat (first | (apply G.ex (hd := rfl); case h => (first | exact Ex.move rfl | exact Ex.add rfl rfl (by omega) | exact Ex.leq rfl rfl | exact Ex.lenSl rfl)) | refine G.nil ?_ | refine GC.seq ?_ | refine GC.region ?_ | refine GE.then_normal ?_)
  refine GC.cond_dec rfl (fun hlt => ?_) (fun hlt => ?_)
  · have hlt : i + 8 ≤ m := by omega
    repeat (first | (apply G.ex (hd := rfl); case h => (first | exact Ex.move rfl | exact Ex.add rfl rfl (by omega))) | refine GC.seq ?_ | refine GC.region ?_ | refine GC.block ?_ | refine GC.skip ?_ | refine GE.then_normal ?_)
    rw [show (i : Int) + 8 = ((i + 8 : Nat) : Int) by omega]
    refine G.sub (l := i) (r := (i + 8)) rfl rfl (by first | exact .inl ⟨rfl, rfl⟩ | exact .inr ⟨_, _, rfl, ev_int rfl (by omega)⟩) (by first | exact .inl ⟨rfl, rfl⟩ | exact .inr ⟨_, _, rfl, ev_int rfl (by omega)⟩) (by omega) rfl (rfl) (fun s1 => ?_)
    rw [flat_cut (enc := eB) (s := 1) inferInstance old i (i + 8), show i + 8 - i = 8 by omega]
    have hpl : ((old.drop i).take 8).length = 8 := by rw [List.length_take, List.length_drop]; omega
    generalize (old.drop i).take 8 = pc at *
    refine G.ex (Ex.convBS (l := pc) rfl hpl (by omega)) rfl ?_
    repeat (first | (apply G.ex (hd := rfl); case h => (first | exact Ex.move rfl | exact Ex.assign rfl)) | refine G.nil ?_ | refine GC.region ?_ | refine GE.then_normal ?_)
    rcases lookS (strOf pc) F 0 with l1 | ⟨j, s, l1, l2⟩
    · refine G.ex (Ex.lookup (ek := eStr) (k := strOf pc) (v := .slice none 0 0) rfl rfl (by rw [l1]; rfl)) rfl ?_
      repeat (first | (apply G.ex (hd := rfl); case h => (first | exact Ex.move rfl)))
      refine G.lit rfl (by rfl) (by rfl) (by rfl) (by rfl) (by rfl) (by rfl) rfl (fun q => ?_)
      refine G.appNil rfl rfl (by rfl) (by omega) rfl ((rfl : flat eN [i] = flat eN [i])) (fun na nc => ?_)
      refine G.mapUpdate (ek := eStr) (k := strOf pc) (L' := fcS F ++ [(strOf pc, .slice na 1 nc)]) rfl rfl rfl (.inr ⟨l1, rfl⟩) (fun rs_ hrs_ => ?_)
      try simp only at hrs_
      subst hrs_
      rw [show fcS F ++ [(strOf pc, Value.slice na 1 nc)] = fcS (F ++ [(strOf pc, ⟨na, 1, nc, [i]⟩)]) by simp [fcS]]
      refine G.conv (fun w_ H_ => Holds.starIn (H_.take (need := [.vec 3 1 na 1 nc (flat eN [i]), .own (Star (svec F))]) (by repeat first | exact tn_ | apply td_ rfl | apply tc_ | exact .here | apply Take1.there))) ?_
      try simp only [List.append_eq, List.nil_append, List.cons_append]
      refine G.conv (fun w_ H_ => Holds.starPerm (l' := svec (F ++ [(strOf pc, ⟨na, 1, nc, [i]⟩)])) (by
        rw [show svec (F ++ [(strOf pc, ⟨na, 1, nc, [i]⟩)]) = svec F ++ [vecS ⟨na, 1, nc, [i]⟩] by simp [svec]]
        exact (List.perm_append_singleton _ _).symm) H_) ?_
      repeat (first | (apply G.ex (hd := rfl); case h => (first | exact Ex.move rfl | exact Ex.add rfl rfl (by omega) | exact Ex.assign rfl)) | refine G.nil ?_ | refine GC.region ?_ | refine GE.then_normal ?_ | refine GE.block_normal ?_)
      have hF' : ∀ e ∈ F ++ [(strOf pc, (⟨na, 1, nc, [i]⟩ : SlD Nat))], e.2.n ≤ i + 1 ∧ ∀ p ∈ e.2.l, p + 8 ≤ m := by
        intro e he
        rcases List.mem_append.1 he with he | he
        · exact ⟨by have := (hF e he).1; omega, (hF e he).2⟩
        · simp at he; subst he
          exact ⟨by simp only; omega, fun p hp => by simp at hp; omega⟩
      refine GE.loop (i + 1, F ++ [(strOf pc, ⟨na, 1, nc, [i]⟩)]) ⟨by simp only; omega, hF'⟩ (by simp only; omega) (by simp only [fits]; repeat (first | exact trivial | refine And.intro rfl ?_)) (by repeat first | exact tn_ | apply td_ rfl | apply tc_ | exact .here | apply Take1.there) (by repeat (first | exact Subs.refl | refine Subs.skip ?_))
    · have hjF : j < F.length := (List.getElem?_eq_some_iff.1 l2).1
      have hj : j < (svec F).length := by simpa [svec] using hjF
      have hFj : F[j] = (strOf pc, s) := (List.getElem?_eq_some_iff.1 l2).2
      have hget : (svec F)[j] = vecS s := by simp [svec, hFj]
      have hmem : (strOf pc, s) ∈ F := by rw [← hFj]; exact List.getElem_mem hjF
      obtain ⟨hs1, hs2⟩ := hF _ hmem
      rw [Nat.zero_add] at l1
      refine G.ex (Ex.lookup (ek := eStr) (k := strOf pc) (v := .slice s.ao s.n s.c) rfl rfl (by rw [l1]; rfl)) rfl ?_
      repeat (first | (apply G.ex (hd := rfl); case h => (first | exact Ex.move rfl)))
      refine G.lit rfl (by rfl) (by rfl) (by rfl) (by rfl) (by rfl) (by rfl) rfl (fun q => ?_)
      refine G.conv (fun w_ H_ => Holds.starAt hj (H_.take (need := [.own (Star (svec F))]) (by repeat first | exact tn_ | apply td_ rfl | apply tc_ | exact .here | apply Take1.there))) ?_
      try simp only [List.append_eq, List.nil_append, List.cons_append]
      rw [hget]
      obtain ⟨so, sn, sc, sl⟩ := s
      simp only [vecS] at *
      have hcat : flat eN sl ++ flat eN [i] = flat eN (sl ++ [i]) := (flat_append ..).symm
      refine G.app rfl rfl (by rfl) (by omega) rfl (hcat) (fun na nc rs_ hrs_ => ?_)
      try simp only at hrs_
      subst hrs_
      refine G.mapUpdate (ek := eStr) (k := strOf pc) (L' := (fcS F).set j (strOf pc, .slice na (sn + 1) nc)) rfl rfl rfl (.inl ⟨j, _, l1, rfl⟩) (fun rs_ hrs_ => ?_)
      try simp only at hrs_
      subst hrs_
      rw [show (fcS F).set j (strOf pc, Value.slice na (sn + 1) nc) = fcS (F.set j (strOf pc, ⟨na, sn + 1, nc, sl ++ [i]⟩)) by simp [fcS, List.map_set]]
      refine G.conv (fun w_ H_ => Holds.starBack hj (H_.take (need := [.vec 3 1 na (sn + 1) nc (flat eN (sl ++ [i])), .own (Star ((svec F).eraseIdx j))]) (by repeat first | exact tn_ | apply td_ rfl | apply tc_ | exact .here | apply Take1.there))) ?_
      try simp only [List.append_eq, List.nil_append, List.cons_append]
      rw [show (svec F).set j (.vec 3 1 na (sn + 1) nc (flat eN (sl ++ [i]))) = svec (F.set j (strOf pc, ⟨na, sn + 1, nc, sl ++ [i]⟩)) by simp [svec, List.map_set, vecS]]
      repeat (first | (apply G.ex (hd := rfl); case h => (first | exact Ex.move rfl | exact Ex.add rfl rfl (by omega) | exact Ex.assign rfl)) | refine G.nil ?_ | refine GC.region ?_ | refine GE.then_normal ?_ | refine GE.block_normal ?_)
      have hF' : ∀ e ∈ F.set j (strOf pc, (⟨na, sn + 1, nc, sl ++ [i]⟩ : SlD Nat)), e.2.n ≤ i + 1 ∧ ∀ p ∈ e.2.l, p + 8 ≤ m := by
        intro e he
        rcases List.mem_or_eq_of_mem_set he with he | rfl
        · exact ⟨by have := (hF e he).1; omega, (hF e he).2⟩
        · refine ⟨by simp only; omega, fun p hp => ?_⟩
          rcases List.mem_append.1 hp with hp | hp
          · exact hs2 p hp
          · simp at hp; omega
      refine GE.loop (i + 1, F.set j (strOf pc, ⟨na, sn + 1, nc, sl ++ [i]⟩)) ⟨by simp only; omega, hF'⟩ (by simp only; omega) (by simp only [fits]; repeat (first | exact trivial | refine And.intro rfl ?_)) (by repeat first | exact tn_ | apply td_ rfl | apply tc_ | exact .here | apply Take1.there) (by repeat (first | exact Subs.refl | refine Subs.skip ?_))
  · repeat (first | (apply G.ex (hd := rfl); case h => (first | exact Ex.move rfl | exact Ex.assign rfl)) | refine G.nil ?_ | refine GC.seq ?_ | refine GC.region ?_ | refine GC.ret ?_ | refine GC.exit ?_ | refine GE.then_normal ?_ | refine GE.then_exit ?_ | refine GE.block_hit ?_)
    refine GE.ret (by first | exact .inl rfl | exact .inr rfl) (res1 Tryd.results21 rfl) ⟨mb, F, rfl, fun e he => ⟨by have := (hF e he).1; omega, (hF e he).2⟩, rfl⟩ (by repeat first | exact tn_ | apply td_ rfl | apply tc_ | exact .here | apply Take1.there) (by repeat (first | exact Subs.refl | refine Subs.skip ?_))
end delta
end Go.Proofs.YtmceappjldcbmaaDoor
