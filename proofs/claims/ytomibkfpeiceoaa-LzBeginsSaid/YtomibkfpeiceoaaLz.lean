/-
  CONTRACTS of package lz, by the kit.
-/
import Derived.Test.YtomibkfpeiceoaaLzP
import Derived.Test.YtomibkfpeiceoaaKit17
namespace Go.Proofs.Ytomibkfpeiceoaa
open Go.RowKit
attribute [local irreducible] Ex G GC GE Gq FPost LPost
set_option linter.unusedVariables false
set_option linter.unusedSimpArgs false
instance : Zer Try.prog 29 (.slice none 0 0) := ⟨by kernel_rfl⟩

namespace lz
instance keyOk : KeyK Try.prog 85 eK := keyK (e := 5) inferInstance inferInstance (fun w => sizeOf_run (P := Try.prog) (t := 5) inferInstance w)
def eT (t : Tok) : List Value := [.int .u8 (t.byte.toNat : Int), .int .i64 (t.dist : Int), .int .i64 (t.len : Int)]
instance : Enc eT 3 := ⟨fun _ => rfl, fun x u hu => by simp [eT] at hu; rcases hu with rfl | rfl | rfl <;> rfl⟩
abbrev FD := List (K × SlD Nat)
def fcell (F : FD) : List (K × Value) := F.map fun e => (e.1, .slice e.2.ao e.2.n e.2.c)
def vecOf (s : SlD Nat) : Res := .vec 3 1 s.ao s.n s.c (flat eN s.l)
def fvec (F : FD) : List Res := F.map fun e => vecOf e.2
def posOf : FD → K → List Nat
  | [], _ => []
  | e :: t, k => if k = e.1 then e.2.l else posOf t k
theorem look_cases (k : K) : ∀ (F : FD) (i : Nat), (lookI k (fcell F) i = none ∧ posOf F k = []) ∨ ∃ j s, lookI k (fcell F) i = some (i + j, .slice s.ao s.n s.c) ∧ F[j]? = some (k, s) ∧ posOf F k = s.l ∧ ∀ s' k', posOf (F.set j (k, s')) k' = if k = k' then s'.l else posOf F k'
  | [], i => .inl ⟨rfl, rfl⟩
  | e :: t, i => by
    by_cases hk : k = e.1
    · refine .inr ⟨0, e.2, ?_, ?_, ?_, fun s' k' => ?_⟩
      · simp [fcell, lookI, hk]
      · simp [hk]
      · simp [posOf, hk]
      · simp only [List.set_cons_zero, posOf, hk]
        by_cases h : k' = e.1
        · simp [h]
        · rw [if_neg h, if_neg (fun h2 => h h2.symm), if_neg h]
    · rcases look_cases k t (i + 1) with ⟨h1, h2⟩ | ⟨j, s, h1, h2, h3, h4⟩
      · refine .inl ⟨?_, ?_⟩
        · simp only [fcell, List.map_cons, lookI, if_neg hk]; exact h1
        · simp only [posOf, if_neg hk]; exact h2
      · refine .inr ⟨j + 1, s, ?_, by simpa using h2, ?_, fun s' k' => ?_⟩
        · simp only [fcell, List.map_cons, lookI, if_neg hk]
          rw [show i + (j + 1) = i + 1 + j by omega]; exact h1
        · simp only [posOf, if_neg hk]; exact h3
        · simp only [List.set_cons_succ, posOf]
          by_cases h : k' = e.1
          · rw [if_pos h, if_pos h, if_neg (fun h2 => hk (h2.trans h))]
          · rw [if_neg h, if_neg h]; exact h4 s' k'
theorem posOf_snoc (k : K) (s : SlD Nat) : ∀ (F : FD), posOf F k = [] → (lookI k (fcell F) 0).isNone = true → ∀ k', posOf (F ++ [(k, s)]) k' = if k = k' then s.l else posOf F k' := by
  have key : ∀ (F : FD) (i : Nat), lookI k (fcell F) i = none → ∀ k', posOf (F ++ [(k, s)]) k' = if k = k' then s.l else posOf F k' := by
    intro F
    induction F with
    | nil => intro i _ k'; simp only [List.nil_append, posOf]; by_cases h : k = k'; · simp [h]
             · rw [if_neg h, if_neg (fun h2 => h h2.symm)]
    | cons e t ih =>
      intro i hn k'
      simp only [fcell, List.map_cons, lookI] at hn
      split at hn
      · cases hn
      · rename_i hk
        simp only [List.cons_append, posOf]
        by_cases h : k' = e.1
        · rw [if_pos h, if_pos h, if_neg (fun h2 => hk (h2.trans h))]
        · rw [if_neg h, if_neg h]; exact ih (i + 1) hn k'
  intro F _ hn k'
  exact key F 0 (by simpa using hn) k'
theorem three (b : List UInt8) (a : Nat) (h : a + 3 ≤ b.length) : (b.drop a).take (a + 3 - a) = [g b a, g b (a + 1), g b (a + 2)] := by
  rw [show a + 3 - a = 3 by omega]
  unfold g
  simp only [List.getD_eq_getElem?_getD]
  rw [List.getElem?_eq_getElem (show a < b.length by omega), List.getElem?_eq_getElem (show a + 1 < b.length by omega), List.getElem?_eq_getElem (show a + 2 < b.length by omega)]
  rw [List.drop_eq_getElem_cons (show a < b.length by omega), List.drop_eq_getElem_cons (show a + 1 < b.length by omega), List.drop_eq_getElem_cons (show a + 1 + 1 < b.length by omega)]
  rfl
set_option maxHeartbeats 4000000 in
theorem run_sp (ao : Option Addr) (n c : Nat) (b : List UInt8) (f a : Nat) (hl : b.length = n) (hn : n ≤ 4096) (hf : f ≤ a) (ha : a ≤ 4096) :
    Spec Try.prog 44 [.slice ao n c, .int .i64 (f : Int), .int .i64 (a : Int)] [.sl ao n c 1 (flat eB b)] fun v give => v = .int .i64 ((run b f a : Nat) : Int) ∧ give = [.sl ao n c 1 (flat eB b)] := by
  refine Spec.intro Try.func44 rfl Try.ntmps44 rfl fun w0 rest rs_ hrs_ => ?_
  simp only [List.cons_append, List.nil_append] at hrs_
  subst hrs_
  repeat (first | (apply G.ex (hd := rfl); case h => (first | exact Ex.assign rfl)) | refine G.nil ?_ | refine GC.seq ?_ | refine GC.region ?_ | refine GC.block ?_ | refine GE.then_normal ?_)
  refine GC.loop (ι := Nat) (fun k => k ≤ 200 ∧ k + runF b (f + k) (a + k) (200 - k) = run b f a) (fun k => 200 - k) (fun k => [(0, .slice ao n c), (1, .int .i64 (f : Int)), (2, .int .i64 (a : Int)), (7, .int .i64 (k : Int))]) (fun k => [.sl ao n c 1 (flat eB b)]) 0 ⟨by omega, by show 0 + runF b f a 200 = run b f a; rw [Nat.zero_add]; rfl⟩ (by simp only [fits]; repeat (first | exact trivial | refine And.intro rfl ?_)) (by repeat (first | exact Takes.nil | apply Takes.dup rfl | apply Takes.cons | exact Take1.here | apply Take1.there)) ?_
  rintro k ⟨hk, hr⟩ fr_ rs_ hfr_ hrs_
  simp only [List.cons_append, List.nil_append] at hfr_ hrs_
  subst hfr_ hrs_
  by_cases h1 : k < 200
  · obtain ⟨m, hm⟩ : ∃ m, 200 - k = m + 1 := ⟨199 - k, by omega⟩
    rw [hm] at hr
    have e1 : (a : Int) + (k : Int) = ((a + k : Nat) : Int) := by omega
    have e2 : (f : Int) + (k : Int) = ((f + k : Nat) : Int) := by omega
    unfold runF at hr
    by_cases h2 : a + k < n
    · by_cases h3 : b.getD (f + k) default = b.getD (a + k) default
      · rw [if_pos ⟨by omega, h3⟩] at hr
        repeat (first | (apply G.ex (hd := rfl); case h => (first | exact Ex.move rfl | exact Ex.add rfl rfl (by omega) | exact Ex.assign rfl)) | refine G.nil ?_ | (apply Gq.ex (hd := rfl); case h => (first | exact Ex.move rfl | exact Ex.add rfl rfl (by omega) | exact Ex.lss rfl rfl | exact Ex.eqBy rfl rfl | exact Ex.lenSl rfl | exact Ex.indexN rfl rfl (by first | omega | (simp; done) | (simp; omega)) | exact Ex.loadT0 rfl (by first | omega | (simp; done) | (simp; omega)) rfl | exact Ex.pickT rfl (by first | assumption | omega) rfl)) | refine Gq.g_tt rfl rfl (by first | assumption | omega) ?_ | refine Gq.nil ?_ | refine GC.seq ?_ | refine GC.region ?_ | refine GC.draw (by kernel_rfl) (by kernel_rfl) ?_ | refine GC.block ?_ | refine GC.skip ?_ | refine GE.then_normal ?_ | refine GE.block_normal ?_ | refine GC.cond_yes rfl (by first | assumption | omega) ?_)
        rw [e1, e2]
        repeat (first | fail)
        refine GE.loop (k + 1) ⟨by omega, by rw [show 200 - (k + 1) = m by omega, ← Nat.add_assoc, ← Nat.add_assoc]; omega⟩ (by omega) (by simp only [fits]; repeat (first | exact trivial | refine And.intro rfl ?_)) (by repeat (first | exact Takes.nil | apply Takes.dup rfl | apply Takes.cons | exact Take1.here | apply Take1.there)) (by repeat (first | exact Subs.refl | refine Subs.skip ?_))
      · rw [if_neg (fun h => h3 h.2)] at hr
        repeat (first | (apply G.ex (hd := rfl); case h => (first | exact Ex.move rfl | exact Ex.assign rfl)) | refine G.nil ?_ | (apply Gq.ex (hd := rfl); case h => (first | exact Ex.move rfl | exact Ex.add rfl rfl (by omega) | exact Ex.lss rfl rfl | exact Ex.eqBy rfl rfl | exact Ex.lenSl rfl | exact Ex.indexN rfl rfl (by first | omega | (simp; done) | (simp; omega)) | exact Ex.loadT0 rfl (by first | omega | (simp; done) | (simp; omega)) rfl | exact Ex.pickT rfl (by first | assumption | omega) rfl)) | refine Gq.g_tt rfl rfl (by first | assumption | omega) ?_ | refine Gq.nil ?_ | refine GC.seq ?_ | refine GC.region ?_ | refine GC.draw (by kernel_rfl) (by kernel_rfl) ?_ | refine GC.ret ?_ | refine GC.exit ?_ | refine GE.then_normal ?_ | refine GE.then_exit ?_ | refine GE.block_hit ?_ | refine GC.cond_no rfl (by first | assumption | omega) ?_)
        rw [e1, e2]
        repeat (first | fail)
        refine GE.ret (by first | exact .inl rfl | exact .inr rfl) (by first | exact res0 Try.results44 | exact res1 Try.results44 rfl | exact res2 Try.results44 rfl rfl | exact resR1 Try.results44 (by first | exact RV.tmp rfl | exact RV.cell rfl rfl | exact RV.cell1 rfl) | exact resR2 Try.results44 (by first | exact RV.tmp rfl | exact RV.cell rfl rfl | exact RV.cell1 rfl) (by first | exact RV.tmp rfl | exact RV.cell rfl rfl | exact RV.cell1 rfl) | exact resR3 Try.results44 (by first | exact RV.tmp rfl | exact RV.cell rfl rfl | exact RV.cell1 rfl) (by first | exact RV.tmp rfl | exact RV.cell rfl rfl | exact RV.cell1 rfl) (by first | exact RV.tmp rfl | exact RV.cell rfl rfl | exact RV.cell1 rfl)) ⟨by rw [← hr]; rfl, rfl⟩ (by repeat (first | exact Takes.nil | apply Takes.dup rfl | apply Takes.cons | exact Take1.here | apply Take1.there)) (by repeat (first | exact Subs.refl | refine Subs.skip ?_))
    · rw [if_neg (fun h => h2 (by omega))] at hr
      repeat (first | (apply G.ex (hd := rfl); case h => (first | exact Ex.move rfl | exact Ex.assign rfl)) | refine G.nil ?_ | (apply Gq.ex (hd := rfl); case h => (first | exact Ex.move rfl | exact Ex.add rfl rfl (by omega) | exact Ex.lss rfl rfl | exact Ex.lenSl rfl | exact Ex.pickT rfl (by first | assumption | omega) rfl | exact Ex.pickF rfl (by first | assumption | omega) rfl)) | refine Gq.g_tt rfl rfl (by first | assumption | omega) ?_ | refine Gq.g_tf rfl rfl (by first | assumption | omega) rfl ?_ | refine Gq.nil ?_ | refine GC.seq ?_ | refine GC.region ?_ | refine GC.draw (by kernel_rfl) (by kernel_rfl) ?_ | refine GC.ret ?_ | refine GC.exit ?_ | refine GE.then_normal ?_ | refine GE.then_exit ?_ | refine GE.block_hit ?_ | refine GC.cond_f rfl ?_)
      refine GE.ret (by first | exact .inl rfl | exact .inr rfl) (by first | exact res0 Try.results44 | exact res1 Try.results44 rfl | exact res2 Try.results44 rfl rfl | exact resR1 Try.results44 (by first | exact RV.tmp rfl | exact RV.cell rfl rfl | exact RV.cell1 rfl) | exact resR2 Try.results44 (by first | exact RV.tmp rfl | exact RV.cell rfl rfl | exact RV.cell1 rfl) (by first | exact RV.tmp rfl | exact RV.cell rfl rfl | exact RV.cell1 rfl) | exact resR3 Try.results44 (by first | exact RV.tmp rfl | exact RV.cell rfl rfl | exact RV.cell1 rfl) (by first | exact RV.tmp rfl | exact RV.cell rfl rfl | exact RV.cell1 rfl) (by first | exact RV.tmp rfl | exact RV.cell rfl rfl | exact RV.cell1 rfl)) ⟨by rw [← hr]; rfl, rfl⟩ (by repeat (first | exact Takes.nil | apply Takes.dup rfl | apply Takes.cons | exact Take1.here | apply Take1.there)) (by repeat (first | exact Subs.refl | refine Subs.skip ?_))
  · have hk2 : k = 200 := by omega
    subst hk2
    repeat (first | (apply G.ex (hd := rfl); case h => (first | exact Ex.move rfl | exact Ex.assign rfl)) | refine G.nil ?_ | (apply Gq.ex (hd := rfl); case h => (first | exact Ex.move rfl | exact Ex.lss rfl rfl | exact Ex.pickF rfl (by first | assumption | omega) rfl)) | refine Gq.g_tf rfl rfl (by first | assumption | omega) rfl ?_ | refine Gq.nil ?_ | refine GC.seq ?_ | refine GC.region ?_ | refine GC.draw (by kernel_rfl) (by kernel_rfl) ?_ | refine GC.ret ?_ | refine GC.exit ?_ | refine GE.then_normal ?_ | refine GE.then_exit ?_ | refine GE.block_hit ?_ | refine GC.cond_no rfl (by first | assumption | omega) ?_)
    refine GE.ret (by first | exact .inl rfl | exact .inr rfl) (by first | exact res0 Try.results44 | exact res1 Try.results44 rfl | exact res2 Try.results44 rfl rfl | exact resR1 Try.results44 (by first | exact RV.tmp rfl | exact RV.cell rfl rfl | exact RV.cell1 rfl) | exact resR2 Try.results44 (by first | exact RV.tmp rfl | exact RV.cell rfl rfl | exact RV.cell1 rfl) (by first | exact RV.tmp rfl | exact RV.cell rfl rfl | exact RV.cell1 rfl) | exact resR3 Try.results44 (by first | exact RV.tmp rfl | exact RV.cell rfl rfl | exact RV.cell1 rfl) (by first | exact RV.tmp rfl | exact RV.cell rfl rfl | exact RV.cell1 rfl) (by first | exact RV.tmp rfl | exact RV.cell rfl rfl | exact RV.cell1 rfl)) ⟨by rw [← hr]; rfl, rfl⟩ (by repeat (first | exact Takes.nil | apply Takes.dup rfl | apply Takes.cons | exact Take1.here | apply Take1.there)) (by repeat (first | exact Subs.refl | refine Subs.skip ?_))
theorem take_rev (l : List Nat) (q : Nat) (h : q < l.length) : (l.take (q + 1)).reverse = l.getD q default :: (l.take q).reverse := by
  rw [List.take_succ_eq_append_getElem h, List.reverse_append, List.getD_eq_getElem?_getD, List.getElem?_eq_getElem h]; rfl
theorem getD_memN (l : List Nat) (q : Nat) (h : q < l.length) : l.getD q default ∈ l := by
  rw [List.getD_eq_getElem?_getD, List.getElem?_eq_getElem h]; exact List.getElem_mem h
set_option maxHeartbeats 4000000 in
theorem best_sp (mb : Nat) (F : FD) (ao : Option Addr) (n c : Nat) (b : List UInt8) (a : Nat) (hl : b.length = n) (hn : n ≤ 4096) (ha : a < n) (hP : posOf F (key b a) = posK b (key b a) a) :
    Spec Try.prog 40 [.map (some mb), .slice ao n c, .int .i64 (a : Int)] [.own (MapR eK mb (fcell F)), .own (Star (fvec F)), .sl ao n c 1 (flat eB b)]
      fun v give => v = .agg (eT ⟨0, (bst b a).1, (bst b a).2⟩).toArray ∧ give = [.own (MapR eK mb (fcell F)), .own (Star (fvec F)), .sl ao n c 1 (flat eB b)] := by
  refine Spec.intro Try.func40 rfl Try.ntmps40 rfl fun w0 rest rs_ hrs_ => ?_
  simp only [List.cons_append, List.nil_append] at hrs_
  subst hrs_
  repeat (first | refine GC.seq ?_ | refine GC.region ?_)
  refine G.alloc rfl (fun tb => ?_)
  by_cases h3 : a + 3 ≤ n
  · have hb : bst b a = best b a (posK b (key b a) a).reverse (0, 0) := by unfold bst; rw [if_pos (by omega)]
    rw [hb]
    clear hb
    have e3 : (a : Int) + 3 = ((a + 3 : Nat) : Int) := by omega
    have ht := three b a (by omega)
    repeat (first | (apply G.ex (hd := rfl); case h => (first | exact Ex.move rfl | exact Ex.add rfl rfl (by omega) | exact Ex.gtr rfl rfl | exact Ex.lenSl rfl)) | refine G.nil ?_ | refine GC.seq ?_ | refine GC.region ?_ | refine GC.skip ?_ | refine GE.then_normal ?_ | refine GC.cond_no rfl (by first | assumption | omega) ?_)
    rw [e3]
    refine G.sub (l := a) (r := (a + 3)) rfl rfl (by first | exact .inl ⟨rfl, rfl⟩ | exact .inr ⟨_, _, rfl, ev_int rfl (by omega)⟩) (by first | exact .inl ⟨rfl, rfl⟩ | exact .inr ⟨_, _, rfl, ev_int rfl (by omega)⟩) (by omega) rfl (rfl) (fun s1 => ?_)
    rw [flat_cut (enc := eB) (s := 1) inferInstance b a (a + 3), ht]
    repeat (first | (apply G.ex (hd := rfl); case h => (first | exact Ex.arrPtr rfl (by omega) | exact Ex.loadAr rfl rfl rfl rfl)))
    rcases look_cases (key b a) F 0 with ⟨l1, l2⟩ | ⟨j, s, l1, l2, l3, l4⟩
    · refine G.ex (Ex.lookup (k := key b a) (v := .slice none 0 0) rfl rfl (by rw [l1]; rfl)) rfl ?_
      rw [hP] at l2
      rw [l2]
      repeat (first | (apply G.ex (hd := rfl); case h => (first | exact Ex.move rfl | exact Ex.sub rfl rfl (by omega) | exact Ex.lenSl rfl | exact Ex.assign rfl)) | refine G.nil ?_ | refine GC.seq ?_ | refine GC.region ?_ | refine GC.block ?_ | refine GE.then_normal ?_)
      refine GC.loop (ι := Unit) (fun _ => True) (fun _ => 0) (fun _ => [(6, .pointer (some (badr tb 0))), (8, .int .i64 (((0 : Nat) : Int) - 1))]) (fun _ => [.blk tb 51 [.int .u8 0, .int .i64 0, .int .i64 0], .own (MapR eK mb (fcell F)), .own (Star (fvec F)), .sl ao n c 1 (flat eB b)]) () trivial (by simp only [fits]; repeat (first | exact trivial | refine And.intro rfl ?_)) (by repeat (first | exact Takes.nil | apply Takes.dup rfl | apply Takes.cons | exact Take1.here | apply Take1.there)) ?_
      rintro _ hu fr_ rs_ hfr_ hrs_
      simp only [List.cons_append, List.nil_append] at hfr_ hrs_
      subst hfr_ hrs_
      repeat (first | refine G.storeBA rfl rfl rfl rfl rfl ?_ | (apply G.ex (hd := rfl); case h => (first | exact Ex.move rfl | exact Ex.geq rfl rfl | exact Ex.pickF rfl (by first | assumption | omega) rfl | exact Ex.loadBA rfl rfl rfl)) | refine G.g_tf rfl rfl (by first | assumption | omega) rfl ?_ | refine G.nil ?_ | refine GC.seq ?_ | refine GC.region ?_ | refine GC.ret ?_ | refine GC.exit ?_ | refine GE.then_normal ?_ | refine GE.then_exit ?_ | refine GE.block_hit ?_ | refine GC.cond_f rfl ?_)
      refine GE.ret (by first | exact .inl rfl | exact .inr rfl) (by first | exact res0 Try.results40 | exact res1 Try.results40 rfl | exact res2 Try.results40 rfl rfl | exact resR1 Try.results40 (by first | exact RV.tmp rfl | exact RV.cell rfl rfl | exact RV.cell1 rfl) | exact resR2 Try.results40 (by first | exact RV.tmp rfl | exact RV.cell rfl rfl | exact RV.cell1 rfl) (by first | exact RV.tmp rfl | exact RV.cell rfl rfl | exact RV.cell1 rfl) | exact resR3 Try.results40 (by first | exact RV.tmp rfl | exact RV.cell rfl rfl | exact RV.cell1 rfl) (by first | exact RV.tmp rfl | exact RV.cell rfl rfl | exact RV.cell1 rfl) (by first | exact RV.tmp rfl | exact RV.cell rfl rfl | exact RV.cell1 rfl)) ⟨rfl, rfl⟩ (by repeat (first | exact Takes.nil | apply Takes.dup rfl | apply Takes.cons | exact Take1.here | apply Take1.there)) (by repeat (first | exact Subs.refl | refine Subs.skip ?_))
    · refine G.ex (Ex.lookup (k := key b a) (v := .slice s.ao s.n s.c) rfl rfl (by rw [l1]; rfl)) rfl ?_
      rw [hP] at l3
      have hjF : j < F.length := (List.getElem?_eq_some_iff.1 l2).1
      have hj : j < (fvec F).length := by simpa [fvec] using hjF
      have hget : (fvec F)[j] = vecOf s := by
        have : F[j] = (key b a, s) := (List.getElem?_eq_some_iff.1 l2).2
        simp [fvec, this]
      refine G.conv (fun w_ H_ => Holds.starAt hj (H_.take (need := [.own (Star (fvec F))]) (by repeat (first | exact Takes.nil | apply Takes.dup rfl | apply Takes.cons | exact Take1.here | apply Take1.there)))) ?_
      try simp only [List.append_eq, List.nil_append, List.cons_append]
      rw [hget]
      have hmem : ∀ p ∈ s.l, p < a := fun p hp => (posK_mem.1 (l3 ▸ hp)).1
      have hfall := posK_falls b (key b a) a
      rw [l3]
      obtain ⟨so, sn, sc, sl⟩ := s
      simp only [vecOf] at *
      refine G.len so (m := sn) (c := sc) fun hlen => ?_
      obtain ⟨hlen1, hlen2, hlen3⟩ := hlen
      rw [flat_len (inferInstance : Enc eN 1), Nat.mul_one, Nat.mul_one] at hlen1
      have hsn : sn ≤ 4096 := by
        have h1 : sl.length ≤ a := by
          rw [← l3]; unfold posK
          exact Nat.le_trans (List.length_filter_le ..) (by simp)
        omega
      clear l1 l2 l4 ht
      repeat (first | (apply G.ex (hd := rfl); case h => (first | exact Ex.move rfl | exact Ex.sub rfl rfl (by omega) | exact Ex.lenSl rfl | exact Ex.assign rfl)) | refine G.nil ?_ | refine GC.seq ?_ | refine GC.region ?_ | refine GC.block ?_ | refine GE.then_normal ?_)
      refine GC.loop (ι := Nat × Nat × Nat) (fun i => i.1 ≤ sn ∧ best b a (sl.take i.1).reverse i.2 = best b a sl.reverse (0, 0)) (fun i => i.1) (fun i => [(1, .slice ao n c), (2, .int .i64 (a : Int)), (6, .pointer (some (badr tb 0))), (7, .slice so sn sc), (8, .int .i64 ((i.1 : Int) - 1))]) (fun i => [.vec 3 1 so sn sc (flat eN sl), .blk tb 51 (eT ⟨0, i.2.1, i.2.2⟩), .own (MapR eK mb (fcell F)), .own (Star ((fvec F).eraseIdx j)), .sl ao n c 1 (flat eB b)]) (sn, 0, 0) ⟨Nat.le_refl _, by rw [List.take_of_length_le (by omega)]⟩ (by simp only [fits]; repeat (first | exact trivial | refine And.intro rfl ?_)) (by repeat (first | exact Takes.nil | apply Takes.dup rfl | apply Takes.cons | exact Take1.here | apply Take1.there)) ?_
      rintro ⟨m, D, L⟩ ⟨hm, hbest⟩ fr_ rs_ hfr_ hrs_
      simp only [List.cons_append, List.nil_append] at hfr_ hrs_
      subst hfr_ hrs_
      simp only at hm hbest
      have hend : ∀ D' L', best b a sl.reverse (0, 0) = (D', L') → True := fun _ _ _ => trivial
      clear hend
      by_cases hm0 : m = 0
      · subst hm0
        simp only [List.take_zero, List.reverse_nil] at hbest
        have hbest' : (D, L) = best b a sl.reverse (0, 0) := hbest
        rw [← hbest']
        clear hbest hbest' hfall hmem hP
        simp only [eT]
        repeat (first | refine G.storeBA rfl rfl rfl rfl rfl ?_ | (apply G.ex (hd := rfl); case h => (first | exact Ex.move rfl | exact Ex.geq rfl rfl | exact Ex.pickF rfl (by first | assumption | omega) rfl | exact Ex.loadBA rfl rfl rfl)) | refine G.g_tf rfl rfl (by first | assumption | omega) rfl ?_ | refine G.nil ?_ | refine GC.seq ?_ | refine GC.region ?_ | refine GC.ret ?_ | refine GC.exit ?_ | refine GE.then_normal ?_ | refine GE.then_exit ?_ | refine GE.block_hit ?_ | refine GC.cond_f rfl ?_)
        refine GE.conv (fun w_ H_ => Holds.starBack hj (H_.take (need := [.vec 3 1 so sn sc (flat eN sl), .own (Star ((fvec F).eraseIdx j))]) (by repeat (first | exact Takes.nil | apply Takes.dup rfl | apply Takes.cons | exact Take1.here | apply Take1.there)))) ?_
        try simp only [List.append_eq, List.nil_append, List.cons_append]
        rw [show (fvec F).set j (.vec 3 1 so sn sc (flat eN sl)) = fvec F by rw [← hget]; exact List.set_getElem_self hj]
        refine GE.ret (by first | exact .inl rfl | exact .inr rfl) (by first | exact res0 Try.results40 | exact res1 Try.results40 rfl | exact res2 Try.results40 rfl rfl | exact resR1 Try.results40 (by first | exact RV.tmp rfl | exact RV.cell rfl rfl | exact RV.cell1 rfl) | exact resR2 Try.results40 (by first | exact RV.tmp rfl | exact RV.cell rfl rfl | exact RV.cell1 rfl) (by first | exact RV.tmp rfl | exact RV.cell rfl rfl | exact RV.cell1 rfl) | exact resR3 Try.results40 (by first | exact RV.tmp rfl | exact RV.cell rfl rfl | exact RV.cell1 rfl) (by first | exact RV.tmp rfl | exact RV.cell rfl rfl | exact RV.cell1 rfl) (by first | exact RV.tmp rfl | exact RV.cell rfl rfl | exact RV.cell1 rfl)) ⟨rfl, rfl⟩ (by repeat (first | exact Takes.nil | apply Takes.dup rfl | apply Takes.cons | exact Take1.here | apply Take1.there)) (by repeat (first | exact Subs.refl | refine Subs.skip ?_))
      · obtain ⟨q, rfl⟩ : ∃ q, m = q + 1 := ⟨m - 1, by omega⟩
        rw [take_rev sl q (by omega)] at hbest
        have hpa := hmem _ (getD_memN sl q (by omega))
        have e1 : ((q + 1 : Nat) : Int) - 1 = (q : Int) := by omega
        rw [e1]
        simp only [eT]
        rw [best] at hbest
        simp only at hbest
        have hq2 : q ≤ sn := by omega
        have hp0 : sl.getD q default ≤ a := by omega
        by_cases hd : a - sl.getD q default ≤ 255
        · rw [if_pos hd] at hbest
          have e2 : (a : Int) - ((sl.getD q default : Nat) : Int) = ((a - sl.getD q default : Nat) : Int) := by omega
          have hr200 := runF_le b 200 (sl.getD q default) a
          repeat (first | (apply G.ex (hd := rfl); case h => (first | exact Ex.move rfl | exact Ex.sub rfl rfl (by omega) | exact Ex.leq rfl rfl | exact Ex.geq rfl rfl | exact Ex.indexN rfl rfl (by first | omega | (simp; done) | (simp; omega)) | exact Ex.loadT0 rfl (by first | omega | (simp; done) | (simp; omega)) rfl | exact Ex.pickT rfl (by first | assumption | omega) rfl)) | refine G.g_tt rfl rfl (by first | assumption | omega) ?_ | refine G.nil ?_ | refine GC.seq ?_ | refine GC.region ?_ | refine GC.block ?_ | refine GC.skip ?_ | refine GE.then_normal ?_ | refine GC.cond_yes rfl (by first | assumption | omega) ?_)
          first | refine G.call (caps := []) (run_sp ao n c b (sl.getD q default) a hl hn hp0 (by omega)) rfl rfl rfl rfl (by repeat (first | exact Takes.nil | apply Takes.dup rfl | apply Takes.cons | exact Take1.here | apply Take1.there)) ?_ | refine G.callU (caps := []) (run_sp ao n c b (sl.getD q default) a hl hn hp0 (by omega)) rfl rfl rfl (by repeat (first | exact Takes.nil | apply Takes.dup rfl | apply Takes.cons | exact Take1.here | apply Take1.there)) ?_
          rintro v_ give_ ⟨rfl, rfl⟩ rs_ hrs_
          simp only [List.cons_append, List.nil_append] at hrs_
          subst hrs_
          repeat (first | (apply G.ex (hd := rfl); case h => (first | exact Ex.move rfl | exact Ex.fieldB rfl | exact Ex.loadB rfl rfl | exact Ex.gtr rfl rfl | exact Ex.assign rfl)) | refine G.nil ?_ | refine GC.seq ?_ | refine GC.region ?_ | refine GE.then_normal ?_)
          by_cases hL : L < run b (sl.getD q default) a
          · rw [if_pos hL] at hbest
            repeat (first | refine G.storeBA rfl rfl rfl rfl rfl ?_ | (apply G.ex (hd := rfl); case h => (first | exact Ex.move rfl | exact Ex.sub rfl rfl (by omega) | exact Ex.indexN rfl rfl (by first | omega | (simp; done) | (simp; omega)) | exact Ex.loadT0 rfl (by first | omega | (simp; done) | (simp; omega)) rfl | exact Ex.assign rfl | exact Ex.build rfl rfl)) | refine G.nil ?_ | refine GC.region ?_ | refine GE.then_normal ?_ | refine GE.block_normal ?_ | refine GC.cond_yes rfl (by first | assumption | omega) ?_)
            rw [e2]
            repeat (first | fail)
            refine GE.loop (q, a - sl.getD q default, run b (sl.getD q default) a) ⟨hq2, hbest⟩ (by simp only; omega) (by simp only [fits]; repeat (first | exact trivial | refine And.intro rfl ?_)) (by repeat (first | exact Takes.nil | apply Takes.dup rfl | apply Takes.cons | exact Take1.here | apply Take1.there)) (by repeat (first | exact Subs.refl | refine Subs.skip ?_))
          · rw [if_neg hL] at hbest
            repeat (first | (apply G.ex (hd := rfl); case h => (first | exact Ex.move rfl | exact Ex.sub rfl rfl (by omega) | exact Ex.assign rfl)) | refine G.nil ?_ | refine GC.region ?_ | refine GC.skip ?_ | refine GE.then_normal ?_ | refine GE.block_normal ?_ | refine GC.cond_no rfl (by first | assumption | omega) ?_)
            refine GE.loop (q, D, L) ⟨hq2, hbest⟩ (by simp only; omega) (by simp only [fits]; repeat (first | exact trivial | refine And.intro rfl ?_)) (by repeat (first | exact Takes.nil | apply Takes.dup rfl | apply Takes.cons | exact Take1.here | apply Take1.there)) (by repeat (first | exact Subs.refl | refine Subs.skip ?_))
        · rw [if_neg hd] at hbest
          have hnd : ¬ (a : Int) - ((sl.getD q default : Nat) : Int) ≤ 255 := by omega
          rw [← hbest]
          clear hbest hmem hfall
          repeat (first | refine G.storeBA rfl rfl rfl rfl rfl ?_ | (apply G.ex (hd := rfl); case h => (first | exact Ex.move rfl | exact Ex.sub rfl rfl (by omega) | exact Ex.leq rfl rfl | exact Ex.geq rfl rfl | exact Ex.indexN rfl rfl (by first | omega | (simp; done) | (simp; omega)) | exact Ex.loadT0 rfl (by first | omega | (simp; done) | (simp; omega)) rfl | exact Ex.pickT rfl (by first | assumption | omega) rfl | exact Ex.loadBA rfl rfl rfl)) | refine G.g_tt rfl rfl (by first | assumption | omega) ?_ | refine G.nil ?_ | refine GC.seq ?_ | refine GC.region ?_ | refine GC.ret ?_ | refine GC.exit ?_ | refine GE.then_normal ?_ | refine GE.then_exit ?_ | refine GE.block_hit ?_ | refine GC.cond_no rfl (by first | assumption | omega) ?_)
          refine GE.conv (fun w_ H_ => Holds.starBack hj (H_.take (need := [.vec 3 1 so sn sc (flat eN sl), .own (Star ((fvec F).eraseIdx j))]) (by repeat (first | exact Takes.nil | apply Takes.dup rfl | apply Takes.cons | exact Take1.here | apply Take1.there)))) ?_
          try simp only [List.append_eq, List.nil_append, List.cons_append]
          rw [show (fvec F).set j (.vec 3 1 so sn sc (flat eN sl)) = fvec F by rw [← hget]; exact List.set_getElem_self hj]
          refine GE.ret (by first | exact .inl rfl | exact .inr rfl) (by first | exact res0 Try.results40 | exact res1 Try.results40 rfl | exact res2 Try.results40 rfl rfl | exact resR1 Try.results40 (by first | exact RV.tmp rfl | exact RV.cell rfl rfl | exact RV.cell1 rfl) | exact resR2 Try.results40 (by first | exact RV.tmp rfl | exact RV.cell rfl rfl | exact RV.cell1 rfl) (by first | exact RV.tmp rfl | exact RV.cell rfl rfl | exact RV.cell1 rfl) | exact resR3 Try.results40 (by first | exact RV.tmp rfl | exact RV.cell rfl rfl | exact RV.cell1 rfl) (by first | exact RV.tmp rfl | exact RV.cell rfl rfl | exact RV.cell1 rfl) (by first | exact RV.tmp rfl | exact RV.cell rfl rfl | exact RV.cell1 rfl)) ⟨rfl, rfl⟩ (by repeat (first | exact Takes.nil | apply Takes.dup rfl | apply Takes.cons | exact Take1.here | apply Take1.there)) (by repeat (first | exact Subs.refl | refine Subs.skip ?_))
  · have hb : bst b a = (0, 0) := by unfold bst; rw [if_neg (by omega)]
    rw [hb]
    repeat (first | refine G.storeBA rfl rfl rfl rfl rfl ?_ | (apply G.ex (hd := rfl); case h => (first | exact Ex.move rfl | exact Ex.add rfl rfl (by omega) | exact Ex.gtr rfl rfl | exact Ex.lenSl rfl | exact Ex.loadBA rfl rfl rfl)) | refine G.nil ?_ | refine GC.seq ?_ | refine GC.region ?_ | refine GC.ret ?_ | refine GE.then_normal ?_ | refine GE.then_ret ?_ | refine GC.cond_yes rfl (by first | assumption | omega) ?_)
    refine GE.ret (by first | exact .inl rfl | exact .inr rfl) (by first | exact res0 Try.results40 | exact res1 Try.results40 rfl | exact res2 Try.results40 rfl rfl | exact resR1 Try.results40 (by first | exact RV.tmp rfl | exact RV.cell rfl rfl | exact RV.cell1 rfl) | exact resR2 Try.results40 (by first | exact RV.tmp rfl | exact RV.cell rfl rfl | exact RV.cell1 rfl) (by first | exact RV.tmp rfl | exact RV.cell rfl rfl | exact RV.cell1 rfl) | exact resR3 Try.results40 (by first | exact RV.tmp rfl | exact RV.cell rfl rfl | exact RV.cell1 rfl) (by first | exact RV.tmp rfl | exact RV.cell rfl rfl | exact RV.cell1 rfl) (by first | exact RV.tmp rfl | exact RV.cell rfl rfl | exact RV.cell1 rfl)) ⟨rfl, rfl⟩ (by repeat (first | exact Takes.nil | apply Takes.dup rfl | apply Takes.cons | exact Take1.here | apply Take1.there)) (by repeat (first | exact Subs.refl | refine Subs.skip ?_))
set_option maxHeartbeats 4000000 in
theorem note_sp (mb : Nat) (F : FD) (ao : Option Addr) (n c : Nat) (b : List UInt8) (a : Nat) (hl : b.length = n) (hn : n ≤ 4096) (ha : a < n) (hP : ∀ k, posOf F k = posK b k a) :
    Spec Try.prog 41 [.map (some mb), .slice ao n c, .int .i64 (a : Int)] [.own (MapR eK mb (fcell F)), .own (Star (fvec F)), .sl ao n c 1 (flat eB b)]
      fun v give => v = .tuple #[] ∧ ∃ F', (∀ k, posOf F' k = posK b k (a + 1)) ∧ give = [.own (MapR eK mb (fcell F')), .own (Star (fvec F')), .sl ao n c 1 (flat eB b)] := by
  by_cases h3 : a + 3 ≤ n
  · have e3 : (a : Int) + 3 = ((a + 3 : Nat) : Int) := by omega
    have ht := three b a (by omega)
    have hS : ∀ k, posK b k (a + 1) = if key b a = k then posK b k a ++ [a] else posK b k a := fun k => by
      rw [posK_succ]
      by_cases hk : key b a = k
      · rw [if_pos ⟨by omega, hk⟩, if_pos hk]
      · rw [if_neg (fun h => hk h.2), if_neg hk]
    refine Spec.intro Try.func41 rfl Try.ntmps41 rfl fun w0 rest rs_ hrs_ => ?_
    simp only [List.cons_append, List.nil_append] at hrs_
    subst hrs_
    repeat (first | (apply G.ex (hd := rfl); case h => (first | exact Ex.move rfl | exact Ex.add rfl rfl (by omega) | exact Ex.leq rfl rfl | exact Ex.lenSl rfl)) | refine G.nil ?_ | refine GC.seq ?_ | refine GC.region ?_ | refine GE.then_normal ?_ | refine GC.cond_yes rfl (by first | assumption | omega) ?_)
    rw [e3]
    refine G.sub (l := a) (r := (a + 3)) rfl rfl (by first | exact .inl ⟨rfl, rfl⟩ | exact .inr ⟨_, _, rfl, ev_int rfl (by omega)⟩) (by first | exact .inl ⟨rfl, rfl⟩ | exact .inr ⟨_, _, rfl, ev_int rfl (by omega)⟩) (by omega) rfl (rfl) (fun s1 => ?_)
    rw [flat_cut (enc := eB) (s := 1) inferInstance b a (a + 3), ht]
    repeat (first | (apply G.ex (hd := rfl); case h => (first | exact Ex.arrPtr rfl (by omega) | exact Ex.loadAr rfl rfl rfl rfl)))
    refine G.alloc rfl (fun kb => ?_)
    repeat (first | refine G.storeBA rfl rfl rfl rfl rfl ?_ | (apply G.ex (hd := rfl); case h => (first | exact Ex.move rfl | exact Ex.loadBA rfl rfl rfl)) | refine G.nil ?_ | refine GC.region ?_ | refine GE.then_normal ?_)
    refine G.lit rfl (by rfl) (by rfl) (by rfl) (by rfl) (by rfl) (by rfl) rfl (fun q => ?_)
    rcases look_cases (key b a) F 0 with ⟨l1, l2⟩ | ⟨j, s, l1, l2, l3, l4⟩
    · have hsn := posOf_snoc (key b a) ⟨q, 1, 1, [a]⟩ F l2 (by rw [l1]; rfl)
      refine G.mapEntry (k := key b a) (v := .slice none 0 0) (j := (fcell F).length) (L' := fcell F ++ [(key b a, .slice none 0 0)]) rfl rfl rfl (.inr ⟨l1, rfl, rfl, rfl⟩) (fun rs_ hrs_ => ?_)
      try simp only at hrs_
      subst hrs_
      repeat (first | (apply G.ex (hd := rfl); case h => (first | exact Ex.extract rfl rfl)))
      refine G.appNil rfl rfl (by rfl) (by omega) rfl ((rfl : flat eN [a] = flat eN [a])) (fun na nc => ?_)
      repeat (first | (apply G.ex (hd := rfl); case h => (first | exact Ex.extract rfl rfl)))
      refine G.entryStore (k := key b a) (v := .slice none 0 0) (j := (fcell F).length) rfl rfl rfl (by simp) (fun rs_ hrs_ => ?_)
      try simp only at hrs_
      subst hrs_
      rw [show (fcell F ++ [(key b a, Value.slice none 0 0)]).set (fcell F).length (key b a, Value.slice na 1 nc) = fcell (F ++ [(key b a, ⟨na, 1, nc, [a]⟩)]) by simp [fcell]]
      refine G.conv (fun w_ H_ => Holds.starIn (H_.take (need := [.vec 3 1 na 1 nc (flat eN [a]), .own (Star (fvec F))]) (by repeat (first | exact Takes.nil | apply Takes.dup rfl | apply Takes.cons | exact Take1.here | apply Take1.there)))) ?_
      try simp only [List.append_eq, List.nil_append, List.cons_append]
      refine G.conv (fun w_ H_ => Holds.starPerm (l' := fvec (F ++ [(key b a, ⟨na, 1, nc, [a]⟩)])) (by
        rw [show fvec (F ++ [(key b a, ⟨na, 1, nc, [a]⟩)]) = fvec F ++ [vecOf ⟨na, 1, nc, [a]⟩] by simp [fvec]]
        exact (List.perm_append_singleton _ _).symm) H_) ?_
      repeat (first | refine G.nil ?_)
      have hsn2 := posOf_snoc (key b a) ⟨na, 1, nc, [a]⟩ F l2 (by rw [l1]; rfl)
      have hfin : ∀ k, posOf (F ++ [(key b a, ⟨na, 1, nc, [a]⟩)]) k = posK b k (a + 1) := fun k => by
        rw [hsn2, hS]
        by_cases hk : key b a = k
        · rw [if_pos hk, if_pos hk, ← hk, ← hP, l2]; rfl
        · rw [if_neg hk, if_neg hk, hP]
      refine GE.ret (by first | exact .inl rfl | exact .inr rfl) (by first | exact res0 Try.results41 | exact res1 Try.results41 rfl | exact res2 Try.results41 rfl rfl | exact resR1 Try.results41 (by first | exact RV.tmp rfl | exact RV.cell rfl rfl | exact RV.cell1 rfl) | exact resR2 Try.results41 (by first | exact RV.tmp rfl | exact RV.cell rfl rfl | exact RV.cell1 rfl) (by first | exact RV.tmp rfl | exact RV.cell rfl rfl | exact RV.cell1 rfl) | exact resR3 Try.results41 (by first | exact RV.tmp rfl | exact RV.cell rfl rfl | exact RV.cell1 rfl) (by first | exact RV.tmp rfl | exact RV.cell rfl rfl | exact RV.cell1 rfl) (by first | exact RV.tmp rfl | exact RV.cell rfl rfl | exact RV.cell1 rfl)) ⟨rfl, F ++ [(key b a, ⟨na, 1, nc, [a]⟩)], hfin, rfl⟩ (by repeat (first | exact Takes.nil | apply Takes.dup rfl | apply Takes.cons | exact Take1.here | apply Take1.there)) (by repeat (first | exact Subs.refl | refine Subs.skip ?_))
    · have hjF : j < F.length := (List.getElem?_eq_some_iff.1 l2).1
      have hj : j < (fvec F).length := by simpa [fvec] using hjF
      have hFj : F[j] = (key b a, s) := (List.getElem?_eq_some_iff.1 l2).2
      have hget : (fvec F)[j] = vecOf s := by simp [fvec, hFj]
      have hcell : (fcell F)[j]? = some (key b a, .slice s.ao s.n s.c) := by simp [fcell, List.getElem?_map, l2]
      rw [Nat.zero_add] at l1
      refine G.mapEntry (k := key b a) (v := .slice s.ao s.n s.c) (j := j) (L' := fcell F) rfl rfl rfl (.inl ⟨l1, rfl⟩) (fun rs_ hrs_ => ?_)
      try simp only at hrs_
      subst hrs_
      repeat (first | (apply G.ex (hd := rfl); case h => (first | exact Ex.extract rfl rfl)))
      refine G.conv (fun w_ H_ => Holds.starAt hj (H_.take (need := [.own (Star (fvec F))]) (by repeat (first | exact Takes.nil | apply Takes.dup rfl | apply Takes.cons | exact Take1.here | apply Take1.there)))) ?_
      try simp only [List.append_eq, List.nil_append, List.cons_append]
      rw [hget]
      obtain ⟨so, sn, sc, sl⟩ := s
      simp only [vecOf] at *
      refine G.len so (m := sn) (c := sc) fun hlen => ?_
      obtain ⟨hlen1, hlen2, hlen3⟩ := hlen
      rw [flat_len (inferInstance : Enc eN 1), Nat.mul_one, Nat.mul_one] at hlen1
      have hsn : sn ≤ 4096 := by
        have h1 : sl.length ≤ a := by
          rw [← l3, hP]; unfold posK
          exact Nat.le_trans (List.length_filter_le ..) (by simp)
        omega
      have hcat : flat eN sl ++ flat eN [a] = flat eN (sl ++ [a]) := (flat_append ..).symm
      refine G.app rfl rfl (by rfl) (by omega) rfl (hcat) (fun na nc rs_ hrs_ => ?_)
      try simp only at hrs_
      subst hrs_
      repeat (first | (apply G.ex (hd := rfl); case h => (first | exact Ex.extract rfl rfl)))
      refine G.entryStore (k := key b a) (v := .slice so sn sc) (j := j) rfl rfl rfl hcell (fun rs_ hrs_ => ?_)
      try simp only at hrs_
      subst hrs_
      rw [show (fcell F).set j (key b a, Value.slice na (sn + 1) nc) = fcell (F.set j (key b a, ⟨na, sn + 1, nc, sl ++ [a]⟩)) by simp [fcell, List.map_set]]
      refine G.conv (fun w_ H_ => Holds.starBack hj (H_.take (need := [.vec 3 1 na (sn + 1) nc (flat eN (sl ++ [a])), .own (Star ((fvec F).eraseIdx j))]) (by repeat (first | exact Takes.nil | apply Takes.dup rfl | apply Takes.cons | exact Take1.here | apply Take1.there)))) ?_
      try simp only [List.append_eq, List.nil_append, List.cons_append]
      rw [show (fvec F).set j (.vec 3 1 na (sn + 1) nc (flat eN (sl ++ [a]))) = fvec (F.set j (key b a, ⟨na, sn + 1, nc, sl ++ [a]⟩)) by simp [fvec, List.map_set, vecOf]]
      repeat (first | refine G.nil ?_)
      have hfin : ∀ k, posOf (F.set j (key b a, ⟨na, sn + 1, nc, sl ++ [a]⟩)) k = posK b k (a + 1) := fun k => by
        rw [l4, hS]
        by_cases hk : key b a = k
        · rw [if_pos hk, if_pos hk, ← hk, ← hP, l3]
        · rw [if_neg hk, if_neg hk, hP]
      refine GE.ret (by first | exact .inl rfl | exact .inr rfl) (by first | exact res0 Try.results41 | exact res1 Try.results41 rfl | exact res2 Try.results41 rfl rfl | exact resR1 Try.results41 (by first | exact RV.tmp rfl | exact RV.cell rfl rfl | exact RV.cell1 rfl) | exact resR2 Try.results41 (by first | exact RV.tmp rfl | exact RV.cell rfl rfl | exact RV.cell1 rfl) (by first | exact RV.tmp rfl | exact RV.cell rfl rfl | exact RV.cell1 rfl) | exact resR3 Try.results41 (by first | exact RV.tmp rfl | exact RV.cell rfl rfl | exact RV.cell1 rfl) (by first | exact RV.tmp rfl | exact RV.cell rfl rfl | exact RV.cell1 rfl) (by first | exact RV.tmp rfl | exact RV.cell rfl rfl | exact RV.cell1 rfl)) ⟨rfl, F.set j (key b a, ⟨na, sn + 1, nc, sl ++ [a]⟩), hfin, rfl⟩ (by repeat (first | exact Takes.nil | apply Takes.dup rfl | apply Takes.cons | exact Take1.here | apply Take1.there)) (by repeat (first | exact Subs.refl | refine Subs.skip ?_))
  · have hS : ∀ k, posK b k (a + 1) = posK b k a := fun k => by
      rw [posK_succ, if_neg (fun h => h3 (by omega))]
    refine Spec.intro Try.func41 rfl Try.ntmps41 rfl fun w0 rest rs_ hrs_ => ?_
    simp only [List.cons_append, List.nil_append] at hrs_
    subst hrs_
    repeat (first | (apply G.ex (hd := rfl); case h => (first | exact Ex.move rfl | exact Ex.add rfl rfl (by omega) | exact Ex.leq rfl rfl | exact Ex.lenSl rfl)) | refine G.nil ?_ | refine GC.seq ?_ | refine GC.region ?_ | refine GC.skip ?_ | refine GE.then_normal ?_ | refine GC.cond_no rfl (by first | assumption | omega) ?_)
    refine GE.ret (by first | exact .inl rfl | exact .inr rfl) (by first | exact res0 Try.results41 | exact res1 Try.results41 rfl | exact res2 Try.results41 rfl rfl | exact resR1 Try.results41 (by first | exact RV.tmp rfl | exact RV.cell rfl rfl | exact RV.cell1 rfl) | exact resR2 Try.results41 (by first | exact RV.tmp rfl | exact RV.cell rfl rfl | exact RV.cell1 rfl) (by first | exact RV.tmp rfl | exact RV.cell rfl rfl | exact RV.cell1 rfl) | exact resR3 Try.results41 (by first | exact RV.tmp rfl | exact RV.cell rfl rfl | exact RV.cell1 rfl) (by first | exact RV.tmp rfl | exact RV.cell rfl rfl | exact RV.cell1 rfl) (by first | exact RV.tmp rfl | exact RV.cell rfl rfl | exact RV.cell1 rfl)) ⟨rfl, F, fun k => by rw [hS, hP], rfl⟩ (by repeat (first | exact Takes.nil | apply Takes.dup rfl | apply Takes.cons | exact Take1.here | apply Take1.there)) (by repeat (first | exact Subs.refl | refine Subs.skip ?_))
end lz
end Go.Proofs.Ytomibkfpeiceoaa
