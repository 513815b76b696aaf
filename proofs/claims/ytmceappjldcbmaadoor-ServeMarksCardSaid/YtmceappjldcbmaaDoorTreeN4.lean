/-
  CONTRACT of packthreadkeep.PathBy: the path that a number stands for, by the kit.
-/
import Derived.Test.YtmceappjldcbmaaDoorCom
import Derived.Test.YtmceappjldcbmaaDoorKitN2
import Derived.Test.YtmceappjldcbmaaDoorKitN1
import Derived.Test.YtmceappjldcbmaaDoorTreeN1
import Derived.Test.YtmceappjldcbmaaDoorTreeN3
namespace Go.Proofs.YtmceappjldcbmaaDoor
open Go.RowKit
attribute [local irreducible] Ex G GC GE Gq FPost LPost
set_option linter.unusedVariables false
set_option linter.unusedSimpArgs false

/-- the name with a number -/
def nmF (k : Int) : List UInt8 := if k = 0 then [97] else if k = 1 then [98] else if k = 2 then [99] else [100]
def pathK (a : Int) : Nat → List UInt8
  | 0 => []
  | i + 1 => pathK a i ++ (47 :: nmF (a.tdiv (7 * ((i : Int) + 1)) % 4))
def pathF (a : Int) : List UInt8 := pathK a (1 + (a % 3).toNat)
theorem nmF_len (k : Int) : (nmF k).length = 1 := by unfold nmF; repeat' split
                                                     all_goals rfl
theorem pathK_len (a : Int) : ∀ i, (pathK a i).length = 2 * i
  | 0 => rfl
  | i + 1 => by rw [pathK, List.length_append, pathK_len a i, List.length_cons, nmF_len]; omega
theorem pathF_len (a : Int) : (pathF a).length ≤ 6 := by
  unfold pathF; rw [pathK_len]; omega
theorem tdiv_in (a m : Int) (hm : 0 < m) (ha : -9223372036854775808 ≤ a ∧ a ≤ 9223372036854775807) : -9223372036854775808 ≤ a.tdiv m ∧ a.tdiv m ≤ 9223372036854775807 := by
  by_cases h : 0 ≤ a
  · rw [Int.tdiv_eq_ediv_of_nonneg h]
    have h1 := Int.ediv_nonneg h (Int.le_of_lt hm)
    have h2 := Int.ediv_le_self m h
    omega
  · have e : a = -(-a) := by omega
    rw [e, Int.neg_tdiv, Int.tdiv_eq_ediv_of_nonneg (show 0 ≤ -a by omega)]
    have h1 := Int.ediv_nonneg (show 0 ≤ -a by omega) (Int.le_of_lt hm)
    have h2 := Int.ediv_le_self m (show 0 ≤ -a by omega)
    omega
set_option maxHeartbeats 1000000 in
theorem pathBy_sp (a : Int) (ha : -9223372036854775808 ≤ a ∧ a ≤ 9223372036854775807) : Spec Tryd.prog 26 [.int .i64 a] [] fun v give => v = .string (sOf (pathF a)) ∧ give = [] := by
  have h3 := Int.emod_nonneg a (show (3 : Int) ≠ 0 by decide)
  have h3' := Int.emod_lt_of_pos a (show (0 : Int) < 3 by decide)
  obtain ⟨K, hK⟩ : ∃ K : Nat, 1 + a % 3 = (K : Int) := ⟨1 + (a % 3).toNat, by omega⟩
  have hK2 : 1 + (a % 3).toNat = K := by omega
  refine Spec.intro Tryd.func26 rfl Tryd.ntmps26 rfl fun w0 rest rs_ hrs_ => ?_
  simp only [List.cons_append, List.nil_append] at hrs_
  subst hrs_
  repeat (first | (apply G.ex (hd := rfl); case h => (first | exact Ex.assign rfl)) | refine G.nil ?_ | refine GC.seq ?_ | refine GC.region ?_ | refine GC.block ?_ | refine GE.then_normal ?_)
  refine GC.loop (ι := Nat) (fun i => i ≤ K) (fun i => K - i) (fun i => [(0, .int .i64 a), (3, .string (sOf (pathK a i))), (4, .int .i64 (i : Int))]) (fun i => []) 0 (Nat.zero_le _) (by simp only [fits]; repeat (first | exact trivial | refine And.intro rfl ?_)) (by repeat first | exact tn_ | apply td_ rfl | apply tc_ | exact .here | apply Take1.there) ?_
  rintro i hi fr_ rs_ hfr_ hrs_
  simp only [List.cons_append, List.nil_append] at hfr_ hrs_
  subst hfr_ hrs_
  have hpl := pathK_len a i
  repeat (first | (apply G.ex (hd := rfl); case h => (first | exact Ex.move rfl)) | refine GC.seq ?_ | refine GC.region ?_)
  first | refine G.call (caps := []) (picked_sp a 3 (by decide) (by decide)) rfl rfl rfl rfl (by repeat first | exact tn_ | apply td_ rfl | apply tc_ | exact .here | apply Take1.there) ?_ | refine G.callU (caps := []) (picked_sp a 3 (by decide) (by decide)) rfl rfl rfl (by repeat first | exact tn_ | apply td_ rfl | apply tc_ | exact .here | apply Take1.there) ?_
  rintro v_ give_ ⟨rfl, rfl⟩ rs_ hrs_
  simp only [List.cons_append, List.nil_append] at hrs_
  subst hrs_
  repeat (first | (apply G.ex (hd := rfl); case h => (first | exact Ex.add rfl rfl (by omega) | exact Ex.lss rfl rfl)) | refine G.nil ?_ | refine GE.then_normal ?_)
  refine GC.cond_dec rfl (fun hlt => ?_) (fun hlt => ?_)
  · have hlt : i < K := by omega
    have e7 : (0 : Int) < 7 * ((i : Int) + 1) := by omega
    have ht := tdiv_in a (7 * ((i : Int) + 1)) e7 ha
    repeat (first | (apply G.ex (hd := rfl); case h => (first | exact Ex.move rfl)) | refine GC.seq ?_ | refine GC.region ?_ | refine GC.block ?_ | refine GC.skip ?_ | refine GE.then_normal ?_)
    refine G.lit rfl (by rfl) (by rfl) (by rfl) (by rfl) (by rfl) (by rfl) rfl (fun y => ?_)
    repeat (first | (apply G.ex (hd := rfl); case h => (first | exact Ex.move rfl | exact Ex.add rfl rfl (by omega) | exact Ex.quotB rfl rfl (by omega) | exact Ex.mul rfl rfl (by omega))))
    first | refine G.call (caps := []) (picked_sp (a.tdiv (7 * ((i : Int) + 1))) 4 (by decide) (by decide)) rfl rfl rfl rfl (by repeat first | exact tn_ | apply td_ rfl | apply tc_ | exact .here | apply Take1.there) ?_ | refine G.callU (caps := []) (picked_sp (a.tdiv (7 * ((i : Int) + 1))) 4 (by decide) (by decide)) rfl rfl rfl (by repeat first | exact tn_ | apply td_ rfl | apply tc_ | exact .here | apply Take1.there) ?_
    rintro v_ give_ ⟨rfl, rfl⟩ rs_ hrs_
    simp only [List.cons_append, List.nil_append] at hrs_
    subst hrs_
    have h4 := Int.emod_nonneg (a.tdiv (7 * ((i : Int) + 1))) (show (4 : Int) ≠ 0 by decide)
    have h4' := Int.emod_lt_of_pos (a.tdiv (7 * ((i : Int) + 1))) (show (0 : Int) < 4 by decide)
    obtain ⟨Z, hZ⟩ : ∃ Z, a.tdiv (7 * ((i : Int) + 1)) % 4 = Z := ⟨_, rfl⟩
    have hn : pathK a (i + 1) = pathK a i ++ (47 :: nmF Z) := by rw [← hZ]; rfl
    rw [hZ] at h4 h4' ⊢
    have hnl := nmF_len Z
    have hc : Z = 0 ∨ Z = 1 ∨ Z = 2 ∨ Z = 3 := by omega
    have hlen2 : (47 :: nmF Z).length = 2 := by rw [List.length_cons, hnl]
    have hfin : pathK a i ++ (47 :: nmF Z) = pathK a (i + 1) := hn.symm
    rcases hc with rfl | rfl | rfl | rfl
    · repeat (first | (apply G.ex (hd := rfl); case h => (first | exact Ex.indexN rfl rfl (by first | omega | (simp; done) | (simp; omega)))))
      refine G.ex (Ex.loadE (ao := y) (k := 0) (v := .string (sOf [97])) rfl rfl) rfl ?_
      refine G.ex (Ex.addO (a := [47]) (b := [97]) rfl rfl (by decide)) rfl ?_
      refine G.ex (Ex.addO (a := pathK a i) (b := [47] ++ [97]) rfl rfl (by rw [hpl]; simp; omega)) rfl ?_
      rw [show pathK a i ++ ([47] ++ [97]) = pathK a (i + 1) from hfin]
      repeat (first | (apply G.ex (hd := rfl); case h => (first | exact Ex.move rfl | exact Ex.add rfl rfl (by omega) | exact Ex.assign rfl)) | refine G.nil ?_ | refine GC.region ?_ | refine GE.then_normal ?_ | refine GE.block_normal ?_)
      refine GE.loop (i + 1) (by omega) (by omega) (by simp only [fits]; repeat (first | exact trivial | refine And.intro rfl ?_)) (by repeat first | exact tn_ | apply td_ rfl | apply tc_ | exact .here | apply Take1.there) (by repeat (first | exact Subs.refl | refine Subs.skip ?_))
    · repeat (first | (apply G.ex (hd := rfl); case h => (first | exact Ex.indexN rfl rfl (by first | omega | (simp; done) | (simp; omega)))))
      refine G.ex (Ex.loadE (ao := y) (k := 1) (v := .string (sOf [98])) rfl rfl) rfl ?_
      refine G.ex (Ex.addO (a := [47]) (b := [98]) rfl rfl (by decide)) rfl ?_
      refine G.ex (Ex.addO (a := pathK a i) (b := [47] ++ [98]) rfl rfl (by rw [hpl]; simp; omega)) rfl ?_
      rw [show pathK a i ++ ([47] ++ [98]) = pathK a (i + 1) from hfin]
      repeat (first | (apply G.ex (hd := rfl); case h => (first | exact Ex.move rfl | exact Ex.add rfl rfl (by omega) | exact Ex.assign rfl)) | refine G.nil ?_ | refine GC.region ?_ | refine GE.then_normal ?_ | refine GE.block_normal ?_)
      refine GE.loop (i + 1) (by omega) (by omega) (by simp only [fits]; repeat (first | exact trivial | refine And.intro rfl ?_)) (by repeat first | exact tn_ | apply td_ rfl | apply tc_ | exact .here | apply Take1.there) (by repeat (first | exact Subs.refl | refine Subs.skip ?_))
    · repeat (first | (apply G.ex (hd := rfl); case h => (first | exact Ex.indexN rfl rfl (by first | omega | (simp; done) | (simp; omega)))))
      refine G.ex (Ex.loadE (ao := y) (k := 2) (v := .string (sOf [99])) rfl rfl) rfl ?_
      refine G.ex (Ex.addO (a := [47]) (b := [99]) rfl rfl (by decide)) rfl ?_
      refine G.ex (Ex.addO (a := pathK a i) (b := [47] ++ [99]) rfl rfl (by rw [hpl]; simp; omega)) rfl ?_
      rw [show pathK a i ++ ([47] ++ [99]) = pathK a (i + 1) from hfin]
      repeat (first | (apply G.ex (hd := rfl); case h => (first | exact Ex.move rfl | exact Ex.add rfl rfl (by omega) | exact Ex.assign rfl)) | refine G.nil ?_ | refine GC.region ?_ | refine GE.then_normal ?_ | refine GE.block_normal ?_)
      refine GE.loop (i + 1) (by omega) (by omega) (by simp only [fits]; repeat (first | exact trivial | refine And.intro rfl ?_)) (by repeat first | exact tn_ | apply td_ rfl | apply tc_ | exact .here | apply Take1.there) (by repeat (first | exact Subs.refl | refine Subs.skip ?_))
    · repeat (first | (apply G.ex (hd := rfl); case h => (first | exact Ex.indexN rfl rfl (by first | omega | (simp; done) | (simp; omega)))))
      refine G.ex (Ex.loadE (ao := y) (k := 3) (v := .string (sOf [100])) rfl rfl) rfl ?_
      refine G.ex (Ex.addO (a := [47]) (b := [100]) rfl rfl (by decide)) rfl ?_
      refine G.ex (Ex.addO (a := pathK a i) (b := [47] ++ [100]) rfl rfl (by rw [hpl]; simp; omega)) rfl ?_
      rw [show pathK a i ++ ([47] ++ [100]) = pathK a (i + 1) from hfin]
      repeat (first | (apply G.ex (hd := rfl); case h => (first | exact Ex.move rfl | exact Ex.add rfl rfl (by omega) | exact Ex.assign rfl)) | refine G.nil ?_ | refine GC.region ?_ | refine GE.then_normal ?_ | refine GE.block_normal ?_)
      refine GE.loop (i + 1) (by omega) (by omega) (by simp only [fits]; repeat (first | exact trivial | refine And.intro rfl ?_)) (by repeat first | exact tn_ | apply td_ rfl | apply tc_ | exact .here | apply Take1.there) (by repeat (first | exact Subs.refl | refine Subs.skip ?_))
  · obtain rfl : i = K := by omega
    have e : pathK a i = pathF a := by unfold pathF; rw [hK2]
    rw [e]
    repeat (first | (apply G.ex (hd := rfl); case h => (first | exact Ex.move rfl | exact Ex.assign rfl)) | refine G.nil ?_ | refine GC.seq ?_ | refine GC.region ?_ | refine GC.ret ?_ | refine GC.exit ?_ | refine GE.then_normal ?_ | refine GE.then_exit ?_ | refine GE.block_hit ?_)
    refine GE.ret (by first | exact .inl rfl | exact .inr rfl) (res1 Tryd.results26 rfl) ⟨rfl, rfl⟩ (by repeat first | exact tn_ | apply td_ rfl | apply tc_ | exact .here | apply Take1.there) (by repeat (first | exact Subs.refl | refine Subs.skip ?_))
end Go.Proofs.YtmceappjldcbmaaDoor
/-
  THE NAMES OF A PATH THAT A NUMBER STANDS FOR.
-/
namespace Go.Proofs.YtmceappjldcbmaaDoor
set_option linter.unusedVariables false
set_option linter.unusedSimpArgs false
namespace tree
open path
def partsK (a : Int) : Nat → List Nm
  | 0 => []
  | i + 1 => partsK a i ++ [nmF (a.tdiv (7 * ((i : Int) + 1)) % 4)]
/-- the names of a path by a number -/
def namesK (a : Int) : List Nm := partsK a (1 + (a % 3).toNat)
theorem ofParts_app (l m : List Nm) : ofParts (l ++ m) = ofParts l ++ ofParts m := List.flatMap_append ..
theorem pathK_parts (a : Int) : ∀ i, pathK a i = ofParts (partsK a i)
  | 0 => rfl
  | i + 1 => by rw [pathK, partsK, ofParts_app, pathK_parts a i]; simp [ofParts]
theorem partsK_len (a : Int) : ∀ i, (partsK a i).length = i
  | 0 => rfl
  | i + 1 => by rw [partsK, List.length_append, partsK_len a i]; rfl
def abcd : List Nm := [[97], [98], [99], [100]]
theorem nmF_abcd (k : Int) : nmF k ∈ abcd := by
  unfold nmF abcd
  repeat' split
  all_goals simp
theorem abcd_ok : ∀ s ∈ abcd, NameOk s := by decide
theorem partsK_mem (a : Int) : ∀ i, ∀ s ∈ partsK a i, s ∈ abcd
  | 0, s, h => nomatch h
  | i + 1, s, h => by
    rw [partsK] at h
    rcases List.mem_append.1 h with h | h
    · exact partsK_mem a i s h
    · rw [List.mem_singleton] at h; rw [h]; exact nmF_abcd _
theorem namesK_len (a : Int) : 1 ≤ (namesK a).length ∧ (namesK a).length ≤ 3 := by
  have h := Int.emod_nonneg a (show (3 : Int) ≠ 0 by decide)
  have h' := Int.emod_lt_of_pos a (show (0 : Int) < 3 by decide)
  unfold namesK
  rw [partsK_len]; omega
theorem namesK_mem (a : Int) : ∀ s ∈ namesK a, s ∈ abcd := partsK_mem a _
theorem walk_parts {l : List Nm} (h : NamesOk l) (hl : (ofParts l).length ≤ 200) : walkF [] (ofParts l) = (l, 0) := by
  unfold walkF
  rw [if_neg (by omega), splitF_parts l fun p hp => name_no47 (h.2 p hp)]
  show goF [] l = _
  rw [goF_names [] l (by rw [List.nil_append]; exact h)]; rfl
theorem pathF_parts (a : Int) : pathF a = ofParts (namesK a) := pathK_parts a _
theorem namesK_ok (a : Int) : NamesOk (namesK a) := ⟨by have := namesK_len a; omega, fun s hs => abcd_ok s (namesK_mem a s hs)⟩
theorem pathF_walk (a : Int) : walkF [] (pathF a) = (namesK a, 0) := by
  have hl := pathF_len a
  rw [pathF_parts] at hl ⊢
  exact walk_parts (namesK_ok a) (by omega)
end tree
end Go.Proofs.YtmceappjldcbmaaDoor
/-
  PLAIN LAWS of a tree of files: names stay among a, b, c, d; a link leads where it leads.
-/
namespace Go.Proofs.YtmceappjldcbmaaDoor
set_option linter.unusedVariables false
set_option linter.unusedSimpArgs false
namespace tree
open path
/-- all names are a, b, c, d -/
def Abcd (t : Tr) : Prop := ∀ i l, t.nd i = .dir l → ∀ k j, (k, j) ∈ l → k ∈ abcd
theorem Abcd.new : Abcd newT := by
  intro i l h k j hk
  match i, h with
  | 0, h => rw [← show [] = l from Nd.dir.inj h] at hk; exact nomatch hk
  | i + 1, h => exact nomatch h
theorem Abcd.set {t : Tr} (h : Abcd t) (d : Nat) {l' : List (Nm × Nat)} (hl : ∀ k j, (k, j) ∈ l' → k ∈ abcd) (c : Int) : Abcd ⟨t.ns.set d (.dir l'), c⟩ := by
  intro i l hi k j hk
  rw [nd_set] at hi
  split at hi
  · rw [← Nd.dir.inj hi] at hk; exact hl k j hk
  · exact h i l hi k j hk
theorem Abcd.snoc {t : Tr} (h : Abcd t) {x : Nd} (hx : ∀ es, x = .dir es → es = []) (c : Int) : Abcd ⟨t.ns ++ [x], c⟩ := by
  intro i l hi k j hk
  rw [nd_snoc] at hi
  split at hi
  · rw [hx _ hi] at hk; exact nomatch hk
  · exact h i l hi k j hk
theorem Abcd.make {t : Tr} (h : Abcd t) {ns : List Nm} (hn : ∀ s ∈ ns, s ∈ abcd) {x : Nd} (hx : ∀ es, x = .dir es → es = []) : Abcd (makeF t ns x).2 := by
  unfold makeF
  by_cases c1 : (freeF t ns).1 = 0
  · rw [if_neg (fun h => h c1)]
    by_cases c2 : t.count = 40
    · rw [if_pos c2]; exact h
    · rw [if_neg c2]
      obtain ⟨h1, h2, l, h3, h4⟩ := freeF_ok c1
      have := (h.set (freeF t ns).2.1 (l' := l ++ [((freeF t ns).2.2, t.ns.length)]) (fun k j hk => by
        rcases List.mem_append.1 hk with hk | hk
        · exact h _ _ h3 k j hk
        · rw [List.mem_singleton] at hk
          rw [(Prod.mk.inj hk).1, h2]; exact hn _ (last_mem h1)) t.count).snoc hx (t.count + 1)
      rw [add_ns h3]
      exact this
  · rw [if_pos c1]; exact h
theorem Abcd.del {t : Tr} (h : Abcd t) {d : Nat} {l : List (Nm × Nat)} (hl : t.nd d = .dir l) (nm : Nm) (c : Int) : Abcd ⟨(t.del d nm).ns, c⟩ := by
  rw [del_ns hl]
  exact h.set d (fun k j hk => h d l hl k j (List.mem_filter.1 hk).1) c
theorem Abcd.remove {t : Tr} (h : Abcd t) (ns : List Nm) : Abcd (removeF t ns).2 := by
  unfold removeF
  by_cases c1 : ns = []
  · rw [if_pos c1]; exact h
  rw [if_neg c1]
  by_cases c2 : (t.find ns false).1 = 0
  · rw [if_neg (fun h => h c2)]
    by_cases c3 : 0 < (t.names (t.find ns false).2).length
    · rw [if_pos c3]; exact h
    · rw [if_neg c3]
      obtain ⟨l, h1, h2, h3⟩ := place_of_find c1 (Prod.ext c2 rfl : t.find ns false = (0, (t.find ns false).2))
      exact h.del h2 _ _
  · rw [if_pos c2]; exact h
theorem Abcd.rename {t : Tr} (h : Abcd t) (ns : List Nm) {to : Nm} (hto : ∀ s ∈ (walkF [] to).1, s ∈ abcd) : Abcd (renameF t ns to).2 := by
  unfold renameF
  by_cases c1 : ns = []
  · rw [if_pos c1]; exact h
  rw [if_neg c1]
  by_cases c2 : (t.find ns false).1 = 0
  · rw [if_neg (fun h => h c2)]
    by_cases c3 : (walkF [] to).2 = 0
    · rw [if_neg (fun h => h c3)]
      by_cases c4 : (freeF t (walkF [] to).1).1 = 0
      · rw [if_neg (fun h => h c4)]
        by_cases c5 : Reach t (t.find ns false).2 (freeF t (walkF [] to).1).2.1
        · rw [if_pos c5]; exact h
        · rw [if_neg c5]
          obtain ⟨l, h1, h2, h3⟩ := place_of_find c1 (Prod.ext c2 rfl : t.find ns false = (0, (t.find ns false).2))
          obtain ⟨f1, f2, m, f3, f4⟩ := freeF_ok c4
          have hd := h.del h2 (ns.getLastD []) t.count
          have hnd : ∃ m', (t.del (placeF t ns).2 (ns.getLastD [])).nd (freeF t (walkF [] to).1).2.1 = .dir m' := by
            rw [del_ns h2, nd_set]
            split
            · exact ⟨_, rfl⟩
            · exact ⟨m, f3⟩
          obtain ⟨m', hm'⟩ := hnd
          show Abcd ((t.del (placeF t ns).2 (ns.getLastD [])).add (freeF t (walkF [] to).1).2.1 (freeF t (walkF [] to).1).2.2 (t.find ns false).2)
          rw [add_ns hm']
          refine Abcd.set (t := t.del (placeF t ns).2 (ns.getLastD [])) hd _ (fun k j hk => ?_) _
          rcases List.mem_append.1 hk with hk | hk
          · exact hd _ _ hm' k j hk
          · rw [List.mem_singleton] at hk
            rw [(Prod.mk.inj hk).1, f2]; exact hto _ (last_mem f1)
      · rw [if_pos c4]; exact h
    · rw [if_pos c3]; exact h
  · rw [if_pos c2]; exact h
theorem Abcd.at_ {t : Tr} (h : Abcd t) (i : Nat) (a : Ac) : Abcd (atF t i a).1 := by
  unfold atF
  split
  · split
    · exact h
    · split
      · exact h
      · exact h
  · rename_i b hb
    split
    · exact h
    · split
      · exact h
      · intro q l hq k j hk
        rw [nd_set] at hq
        split at hq
        · exact nomatch hq
        · exact h q l hq k j hk
  · exact h
/-- a tree that another one begins with -/
theorem look_pre {t t' : Tr} (k : TrOk t) (h : ∀ j, j < t.ns.length → t'.nd j = t.nd j) (follow loop : Bool) : ∀ (rest pre : List Nm) (now : Nat), now < t.ns.length → lookF t' follow loop now pre rest = lookF t follow loop now pre rest
  | [], pre, now, _ => rfl
  | name :: rest, pre, now, hn => by
    unfold lookF
    rw [h now hn]
    cases hnd : t.nd now with
    | dir l =>
      simp only
      cases he : ent l name with
      | none => rfl
      | some nx =>
        have hlt := (k.ins _ _ hnd _ _ (ent_mem he)).2.1
        simp only
        rw [h nx hlt]
        cases hx : t.nd nx with
        | link to => simp only; rw [look_pre k h follow loop rest _ nx hlt]
        | dir l2 => simp only; exact look_pre k h follow loop rest _ nx hlt
        | file d => simp only; exact look_pre k h follow loop rest _ nx hlt
    | file d => rfl
    | link to => rfl
theorem find_pre {t t' : Tr} (k : TrOk t) (h : ∀ j, j < t.ns.length → t'.nd j = t.nd j) (follow : Bool) (ns : List Nm) : t'.find ns follow = t.find ns follow :=
  findF_congr (fun f lp rest => look_pre k h f lp rest [] 0 k.pos) follow 8 ns
theorem atF_same {t t' : Tr} {i : Nat} (h : t'.nd i = t.nd i) (a : Ac) : (atF t' i a).2 = (atF t i a).2 := by
  unfold atF
  rw [h]
  cases t.nd i with
  | dir l =>
    simp only
    split
    · rfl
    · split <;> rfl
  | file b =>
    simp only
    split
    · rfl
    · split <;> rfl
  | link to => rfl
/-- to look at something -/
def lookA (kind : Int) (p : Nm) : Ac := ⟨kind, p, [], 0, 60, []⟩
theorem pre_look {t t' : Tr} (k : TrOk t) (h : ∀ j, j < t.ns.length → t'.nd j = t.nd j) {a : Ac} (hk : 3 ≤ a.kind ∧ a.kind ≤ 7) {ns : List Nm} (hw : walkF [] a.path = (ns, 0)) : (doF t' a).2 = (doF t a).2 := by
  rw [doF_io hk hw, doF_io hk hw, find_pre k h]
  by_cases c : (t.find ns true).1 = 0
  · rw [if_neg (fun h => h c), if_neg (fun h => h c)]
    exact atF_same (h _ (findF_lt k (Prod.ext c rfl : t.find ns true = (0, _)))) a
  · rw [if_pos c, if_pos c]
theorem look_loop {t : Tr} {follow : Bool} : ∀ (rest pre : List Nm) (now : Nat), lookF t follow true now pre rest = .err 13 ∨ lookF t follow true now pre rest = lookF t follow false now pre rest
  | [], pre, now => .inr rfl
  | name :: rest, pre, now => by
    unfold lookF
    cases t.nd now with
    | dir l =>
      simp only
      cases ent l name with
      | none => exact .inr rfl
      | some nx =>
        simp only
        cases t.nd nx with
        | link to =>
          simp only
          by_cases c : follow = true ∨ rest ≠ []
          · rw [if_pos c, if_pos c]; exact .inl rfl
          · rw [if_neg c, if_neg c]; exact look_loop rest _ nx
        | dir l2 => simp only; exact look_loop rest _ nx
        | file d => simp only; exact look_loop rest _ nx
    | file d => exact .inr rfl
    | link to => exact .inr rfl
theorem find_step {t : Tr} {follow : Bool} : ∀ (k : Nat) (ns : List Nm), findF t follow k ns = (13, 0) ∨ findF t follow k ns = findF t follow (k + 1) ns
  | 0, ns => by
    unfold findF
    rcases look_loop (t := t) (follow := follow) ns [] 0 with h | h
    · rw [h]; exact .inl rfl
    · rw [h]
      cases lookF t follow false 0 [] ns with
      | err e => exact .inr rfl
      | node i => exact .inr rfl
      | again on => exact .inl rfl
  | k + 1, ns => by
    conv => lhs; unfold findF
    conv => rhs; unfold findF
    cases lookF t follow false 0 [] ns with
    | err e => exact .inr rfl
    | node i => exact .inr rfl
    | again on => exact find_step k on
theorem atF_not13 {t : Tr} {i : Nat} {a : Ac} : (atF t i a).2.code ≠ 13 := by
  have hf : ∀ b : List UInt8, (fileF b a).2.code ≠ 13 := fun b => by
    unfold fileF
    split
    · exact (by decide : (2 : Int) ≠ 13)
    split
    · exact (by decide : (11 : Int) ≠ 13)
    split
    · exact (by decide : (0 : Int) ≠ 13)
    split
    · exact (by decide : (0 : Int) ≠ 13)
    · exact (by decide : (0 : Int) ≠ 13)
  unfold atF
  split
  · split
    · exact (by decide : (0 : Int) ≠ 13)
    · split
      · exact (by decide : (0 : Int) ≠ 13)
      · exact (by decide : (14 : Int) ≠ 13)
  · split
    · exact (by decide : (15 : Int) ≠ 13)
    · split
      · exact (by decide : (0 : Int) ≠ 13)
      · exact hf _
  · exact (by decide : (15 : Int) ≠ 13)
theorem find_root (t : Tr) (f : Bool) : t.find [] f = (0, 0) := rfl
theorem place_one (t : Tr) {l : List (Nm × Nat)} (h : t.nd 0 = .dir l) (x : Nm) : placeF t [x] = (0, 0) := by
  unfold placeF
  rw [show ([x] : List Nm).dropLast = [] from rfl, find_root]
  simp only [h]
  rfl
theorem free_one {t : Tr} {l : List (Nm × Nat)} (h : t.nd 0 = .dir l) {x : Nm} (hx : ent l x = none) : freeF t [x] = (0, 0, x) := by
  unfold freeF
  rw [if_neg (fun h => nomatch h), place_one t h, if_neg (fun h => h rfl), names_of h]
  rw [show ([x] : List Nm).getLastD [] = x from rfl, hx]
  rfl
/-- a node made in the root -/
theorem make_one {t : Tr} {l : List (Nm × Nat)} (h : t.nd 0 = .dir l) {x : Nm} (hx : ent l x = none) (nd : Nd) : makeF t [x] nd = if t.count = 40 then (9, t) else (0, ⟨t.ns.set 0 (.dir (l ++ [(x, t.ns.length)])) ++ [nd], t.count + 1⟩) := by
  unfold makeF
  rw [free_one h hx, if_neg (fun h => h rfl), add_ns h]
theorem find_one {t : Tr} {l : List (Nm × Nat)} (h : t.nd 0 = .dir l) {x : Nm} {i : Nat} (hx : ent l x = some i) : t.find [x] false = (0, i) := by
  have : lookF t false false 0 [] [x] = .node i := by
    unfold lookF
    simp only [h, hx]
    cases t.nd i with
    | link to => simp only; rw [if_neg (by simp)]; rfl
    | dir l2 => rfl
    | file d => rfl
  show findF t false 8 [x] = _
  unfold findF
  rw [this]
/-- a node removed out of the root -/
theorem remove_one {t : Tr} {l : List (Nm × Nat)} (h : t.nd 0 = .dir l) {x : Nm} {i : Nat} (hx : ent l x = some i) (hn : t.names i = []) : removeF t [x] = (0, ⟨t.ns.set 0 (.dir (l.filter fun e => decide (¬ e.1 = x))), t.count - 1⟩) := by
  unfold removeF
  rw [if_neg (fun h => nomatch h), find_one h hx, if_neg (fun h => h rfl)]
  simp only [hn, List.length_nil, Nat.lt_irrefl, if_false]
  rw [place_one t h, show ([x] : List Nm).getLastD [] = x from rfl, del_ns h]
def zz : Nm := [122, 122]
def linkA (p : Nm) : Ac := ⟨10, 47 :: zz, p, 0, 0, []⟩
def rmA (p : Nm) : Ac := ⟨8, p, [], 0, 0, []⟩
theorem walk_zz : walkF [] (47 :: zz) = ([zz], 0) := by decide
theorem link_law {t : Tr} (k : TrOk t) (hA : Abcd t) {p : Nm} {ns : List Nm} (hp : 1 ≤ p.length ∧ p.length ≤ 200) (hw : walkF [] p = (ns, 0)) (hn : ns.length ≤ 12) (kind : Int) (hk : 3 ≤ kind ∧ kind ≤ 7) :
    (doF t (linkA p)).2.code = 9 ∨ ((doF t (linkA p)).2.code = 0 ∧
      ((doF (doF t (linkA p)).1 (lookA kind p)).2.code = 13 ∨ (doF (doF t (linkA p)).1 (lookA kind (47 :: zz))).2.code = 13 → (doF (doF t (linkA p)).1 (lookA kind (47 :: zz))).2.code = 13) ∧
      (¬ (doF (doF t (linkA p)).1 (lookA kind (47 :: zz))).2.code = 13 → (doF (doF t (linkA p)).1 (lookA kind p)).2 = (doF (doF t (linkA p)).1 (lookA kind (47 :: zz))).2) ∧
      (doF (doF (doF t (linkA p)).1 (rmA (47 :: zz))).1 (lookA kind p)).2 = (doF t (lookA kind p)).2) := by
  obtain ⟨l, h0⟩ := k.root
  have hzz : ent l zz = none := ent_none.2 fun j hj => by
    have := hA 0 l h0 zz j hj
    exact absurd this (by decide)
  have hdo : doF t (linkA p) = ((makeF t [zz] (.link p)).2, no (makeF t [zz] (.link p)).1) := by
    unfold doF linkA
    simp only
    rw [if_neg (by decide), if_neg (fun h => by omega), walk_zz, if_neg (fun h => h rfl), if_neg (by decide), if_neg (by decide), if_pos True.intro]
  rw [hdo, make_one h0 hzz]
  by_cases hc : t.count = 40
  · rw [if_pos hc]; exact .inl rfl
  rw [if_neg hc]
  refine .inr ⟨rfl, ?_⟩
  simp only
  generalize ht1 : (⟨t.ns.set 0 (.dir (l ++ [(zz, t.ns.length)])) ++ [.link p], t.count + 1⟩ : Tr) = t1
  have hpos := k.pos
  have hl1 : (t.ns.set 0 (.dir (l ++ [(zz, t.ns.length)]))).length = t.ns.length := List.length_set ..
  have n0 : t1.nd 0 = .dir (l ++ [(zz, t.ns.length)]) := by
    rw [← ht1]
    have := nd_snoc ⟨t.ns.set 0 (.dir (l ++ [(zz, t.ns.length)])), t.count⟩ (.link p) (t.count + 1) 0
    simp only [hl1] at this
    rw [this, if_neg (by omega), nd_set, if_pos ⟨rfl, hpos⟩]
  have nN : t1.nd t.ns.length = .link p := by
    rw [← ht1]
    have := nd_snoc ⟨t.ns.set 0 (.dir (l ++ [(zz, t.ns.length)])), t.count⟩ (.link p) (t.count + 1) t.ns.length
    simp only [hl1] at this
    rw [this, if_pos True.intro]
  have nj : ∀ j, j < t.ns.length → j ≠ 0 → t1.nd j = t.nd j := fun j hj hj0 => by
    rw [← ht1]
    have := nd_snoc ⟨t.ns.set 0 (.dir (l ++ [(zz, t.ns.length)])), t.count⟩ (.link p) (t.count + 1) j
    simp only [hl1] at this
    rw [this, if_neg (by omega), nd_set, if_neg (fun h => hj0 h.1.symm)]
  have he : ent (l ++ [(zz, t.ns.length)]) zz = some t.ns.length := by rw [ent_snoc, hzz]; exact if_pos rfl
  have hlook : lookF t1 true false 0 [] [zz] = .again ns := by
    unfold lookF
    simp only [n0, he, nN]
    rw [if_pos (.inl True.intro), if_neg (fun h => nomatch h)]
    have hf : followF [] p = (ns, 0) := by unfold followF; rw [hw]; simp
    rw [hf, if_neg (fun h => h rfl), if_neg (by simp; omega), List.append_nil]
  have hF7 : t1.find [zz] true = findF t1 true 7 ns := by
    show findF t1 true 8 [zz] = _
    conv => lhs; unfold findF
    rw [hlook]
  have ea : doF t1 (lookA kind p) = if ¬ (t1.find ns true).1 = 0 then (t1, no (t1.find ns true).1) else atF t1 (t1.find ns true).2 (lookA kind p) := doF_io (a := lookA kind p) hk hw
  have eb : doF t1 (lookA kind (47 :: zz)) = if ¬ (findF t1 true 7 ns).1 = 0 then (t1, no (findF t1 true 7 ns).1) else atF t1 (findF t1 true 7 ns).2 (lookA kind p) := by
    rw [doF_io (a := lookA kind (47 :: zz)) hk walk_zz, hF7]
    rfl
  refine ⟨?_, ?_, ?_⟩
  · rintro (h | h)
    · rw [eb]
      have h8 : (t1.find ns true).1 = 13 := by
        rw [ea] at h
        by_cases c : (t1.find ns true).1 = 0
        · rw [if_neg (fun h => h c)] at h; exact absurd h atF_not13
        · rw [if_pos c] at h; exact h
      rcases find_step (t := t1) (follow := true) 7 ns with e | e
      · rw [e]; rfl
      · have e' : findF t1 true 7 ns = t1.find ns true := e
        rw [e', if_pos (by rw [h8]; decide)]
        exact h8
    · exact h
  · intro h
    rw [eb] at h ⊢
    rw [ea]
    rcases find_step (t := t1) (follow := true) 7 ns with e | e
    · rw [e] at h; exact absurd rfl h
    · have e' : findF t1 true 7 ns = t1.find ns true := e
      rw [e']
  · have hnm : t1.names t.ns.length = [] := by unfold Tr.names; rw [nN]
    have hrm : doF t1 (rmA (47 :: zz)) = ((removeF t1 [zz]).2, no (removeF t1 [zz]).1) := by
      unfold doF rmA
      simp only
      rw [if_neg (by decide), if_neg (fun h => by have := h.1; omega), walk_zz, if_neg (fun h => h rfl), if_neg (by decide), if_neg (by decide), if_neg (by decide), if_pos True.intro]
    rw [hrm, remove_one n0 he hnm]
    refine pre_look k (fun j hj => ?_) (a := lookA kind p) hk hw
    have hfil : ((l ++ [(zz, t.ns.length)]).filter fun e => decide (¬ e.1 = zz)) = l := by
      rw [List.filter_append, filter_gone (ent_none.1 hzz)]
      simp
    rw [nd_set, hfil]
    by_cases hj0 : j = 0
    · subst hj0
      have : 0 < t1.ns.length := by rw [← ht1]; simp
      rw [if_pos ⟨rfl, this⟩, h0]
    · rw [if_neg (fun h => hj0 h.1.symm)]
      exact nj j hj hj0
end tree
end Go.Proofs.YtmceappjldcbmaaDoor
