/-
  CONTRACTS of package path: walk, Clean, Follow, fault, by the kit.
-/
import Derived.Test.YtjfdpfjngajnlaaDoorSplit
import Derived.Test.YtjfdpfjngajnlaaDoorKit27
import Derived.Test.YtjfdpfjngajnlaaDoorKit31
namespace Go.Proofs.YtjfdpfjngajnlaaDoor
open Go.RowKit
attribute [local irreducible] Ex G GC GE Gq FPost LPost
set_option linter.unusedVariables false
set_option linter.unusedSimpArgs false
namespace path
theorem cloneS_sp (r : Res) (ao : Option Addr) (n c : Nat) (l : List (List UInt8)) [hr : RdR r ao n c 1 (flat eO l)] (hl : l.length = n) (hn : n ≤ 1000000) :
    Spec Tryd.prog 18 [.slice ao n c] [r] fun v give => ∃ ao' c', v = .slice ao' n c' ∧ give = [.vec 9 1 ao' n c' (flat eO l), r] := by
  refine Spec.intro Tryd.func18 rfl Tryd.ntmps18 rfl fun w0 rest rs_ hrs_ => ?_
  simp only [List.cons_append, List.nil_append] at hrs_
  subst hrs_
  repeat (first | (apply G.ex (hd := rfl); case h => (first | exact Ex.move rfl | exact Ex.assign rfl | exact Ex.eqNil rfl rfl)) | refine G.nil ?_ | refine GC.seq ?_ | refine GC.region ?_ | refine GE.then_normal ?_)
  refine GC.cond_dec rfl (fun h => ?_) (fun h => ?_)
  · subst h
    refine GC.nilLen (m := n) (c := c) fun h1 h2 h3 => ?_
    subst h1 h2
    rw [h3]
    first | refine G.nilvec 9 1 ?_ | refine GC.nilvec 9 1 ?_
    repeat (first | (apply G.ex (hd := rfl); case h => (first | exact Ex.assign rfl)) | refine G.nil ?_ | refine GC.seq ?_ | refine GC.region ?_ | refine GC.ret ?_ | refine GE.then_normal ?_ | refine GE.then_ret ?_)
    refine GE.ret (by first | exact .inl rfl | exact .inr rfl) (by first | exact res0 Tryd.results18 | exact res1 Tryd.results18 rfl | exact res2 Tryd.results18 rfl rfl | exact resR1 Tryd.results18 (by first | exact RV.tmp rfl | exact RV.cell rfl (eP_len _) | exact RV.cell rfl rfl | exact RV.cell1 rfl) | exact resR2 Tryd.results18 (by first | exact RV.tmp rfl | exact RV.cell rfl (eP_len _) | exact RV.cell rfl rfl | exact RV.cell1 rfl) (by first | exact RV.tmp rfl | exact RV.cell rfl (eP_len _) | exact RV.cell rfl rfl | exact RV.cell1 rfl) | exact resR3 Tryd.results18 (by first | exact RV.tmp rfl | exact RV.cell rfl (eP_len _) | exact RV.cell rfl rfl | exact RV.cell1 rfl) (by first | exact RV.tmp rfl | exact RV.cell rfl (eP_len _) | exact RV.cell rfl rfl | exact RV.cell1 rfl) (by first | exact RV.tmp rfl | exact RV.cell rfl (eP_len _) | exact RV.cell rfl rfl | exact RV.cell1 rfl)) ⟨_, _, rfl, rfl⟩ (by repeat (first | exact Takes.nil | apply Takes.dup rfl | apply Takes.cons | exact Take1.here | apply Take1.there)) (by repeat (first | exact Subs.refl | refine Subs.skip ?_))
  · repeat (first | refine GC.seq ?_ | refine GC.region ?_ | refine GC.skip ?_ | refine GE.then_normal ?_)
    refine G.lit rfl (by rfl) (by rfl) (by rfl) (by rfl) (by rfl) (by rfl) rfl (fun q => ?_)
    repeat (first | (apply G.ex (hd := rfl); case h => (first | exact Ex.move rfl)))
    refine G.app rfl rfl (by rfl) (by omega) rfl (rfl) (fun a2 c2 rs_ hrs_ => ?_)
    try simp only at hrs_
    subst hrs_
    simp only [Nat.zero_add, List.nil_append]
    repeat (first | (apply G.ex (hd := rfl); case h => (first | exact Ex.assign rfl)) | refine G.nil ?_ | refine GC.ret ?_ | refine GE.then_normal ?_)
    refine GE.ret (by first | exact .inl rfl | exact .inr rfl) (by first | exact res0 Tryd.results18 | exact res1 Tryd.results18 rfl | exact res2 Tryd.results18 rfl rfl | exact resR1 Tryd.results18 (by first | exact RV.tmp rfl | exact RV.cell rfl (eP_len _) | exact RV.cell rfl rfl | exact RV.cell1 rfl) | exact resR2 Tryd.results18 (by first | exact RV.tmp rfl | exact RV.cell rfl (eP_len _) | exact RV.cell rfl rfl | exact RV.cell1 rfl) (by first | exact RV.tmp rfl | exact RV.cell rfl (eP_len _) | exact RV.cell rfl rfl | exact RV.cell1 rfl) | exact resR3 Tryd.results18 (by first | exact RV.tmp rfl | exact RV.cell rfl (eP_len _) | exact RV.cell rfl rfl | exact RV.cell1 rfl) (by first | exact RV.tmp rfl | exact RV.cell rfl (eP_len _) | exact RV.cell rfl rfl | exact RV.cell1 rfl) (by first | exact RV.tmp rfl | exact RV.cell rfl (eP_len _) | exact RV.cell rfl rfl | exact RV.cell1 rfl)) ⟨_, _, rfl, rfl⟩ (by repeat (first | exact Takes.nil | apply Takes.dup rfl | apply Takes.cons | exact Take1.here | apply Take1.there)) (by repeat (first | exact Subs.refl | refine Subs.skip ?_))
theorem getDm {α : Type} [Inhabited α] (l : List α) (k : Nat) (h : k < l.length) : l.getD k default ∈ l := by
  rw [List.getD_eq_getElem?_getD, List.getElem?_eq_getElem h]; exact List.getElem_mem h
set_option maxHeartbeats 1000000 in
theorem idxn_sp (f : FuncId) [hF : Fun Tryd.prog f] (hf : ∀ l : List UInt8, l.length ≤ 1000000 → Spec Tryd.prog f [.string (sOf l)] [] fun v give => v = .bool (decide (¬ NameOk l)) ∧ give = [])
    (r : Res) (ao : Option Addr) (n c : Nat) (l : List (List UInt8)) [hr : RdR r ao n c 1 (flat eO l)] (hl : l.length = n) (hn : n ≤ 1000000) (hs : ∀ s ∈ l, s.length ≤ 1000000) :
    Spec Tryd.prog 29 [.slice ao n c, .func (.func f) #[] #[]] [r] fun v give => ∃ k : Int, v = .int .i64 k ∧ (0 ≤ k ↔ ∃ s ∈ l, ¬ NameOk s) ∧ give = [r] := by
  refine Spec.intro Tryd.func29 rfl Tryd.ntmps29 rfl fun w0 rest rs_ hrs_ => ?_
  simp only [List.cons_append, List.nil_append] at hrs_
  subst hrs_
  repeat (first | (apply G.ex (hd := rfl); case h => (first | exact Ex.move rfl | exact Ex.lenSl rfl | exact Ex.assign rfl)) | refine G.nil ?_ | refine GC.seq ?_ | refine GC.region ?_ | refine GC.block ?_ | refine GE.then_normal ?_)
  refine GC.loop (ι := Nat) (fun k => k ≤ n ∧ ∀ s ∈ l.take k, NameOk s) (fun k => n - k) (fun k => [(0, .slice ao n c), (1, .func (.func f) #[] #[]), (6, .slice ao n c), (7, .int .i64 (n : Int)), (8, .int .i64 (k : Int))]) (fun k => [r]) 0 ⟨Nat.zero_le _, fun s hs => nomatch hs⟩ (by simp only [fits]; repeat (first | exact trivial | refine And.intro rfl ?_)) (by repeat (first | exact Takes.nil | apply Takes.dup rfl | apply Takes.cons | exact Take1.here | apply Take1.there)) ?_
  rintro k ⟨hk, hd⟩ fr_ rs_ hfr_ hrs_
  simp only [List.cons_append, List.nil_append] at hfr_ hrs_
  subst hfr_ hrs_
  repeat (first | (apply G.ex (hd := rfl); case h => (first | exact Ex.lss rfl rfl)) | refine G.nil ?_ | refine GC.seq ?_ | refine GC.region ?_ | refine GE.then_normal ?_)
  refine GC.cond_dec rfl (fun hlt => ?_) (fun hlt => ?_)
  · have hlt : k < n := by omega
    have hmem := getDm l k (by omega)
    repeat (first | (apply G.ex (hd := rfl); case h => (first | exact Ex.move rfl | exact Ex.indexN rfl rfl (by first | omega | (simp; done) | (simp; omega)) | exact Ex.loadT0 rfl (by first | omega | (simp; done) | (simp; omega)) rfl | exact Ex.assign rfl)) | refine G.nil ?_ | refine GC.seq ?_ | refine GC.region ?_ | refine GC.block ?_ | refine GC.skip ?_ | refine GE.then_normal ?_)
    first | refine G.call (caps := []) (hf (l.getD k default) (hs _ hmem)) rfl rfl rfl rfl (by repeat (first | exact Takes.nil | apply Takes.dup rfl | apply Takes.cons | exact Take1.here | apply Take1.there)) ?_ | refine G.callU (caps := []) (hf (l.getD k default) (hs _ hmem)) rfl rfl rfl (by repeat (first | exact Takes.nil | apply Takes.dup rfl | apply Takes.cons | exact Take1.here | apply Take1.there)) ?_
    rintro v_ give_ ⟨rfl, rfl⟩ rs_ hrs_
    simp only [List.cons_append, List.nil_append] at hrs_
    subst hrs_
    by_cases hok : NameOk (l.getD k default)
    · have hok' : ¬ ¬ NameOk (l.getD k default) := fun h => h hok
      have hd2 : ∀ s ∈ l.take (k + 1), NameOk s := fun s hs' => by
        rw [List.take_succ_eq_append_getElem (by omega)] at hs'
        rcases List.mem_append.1 hs' with h | h
        · exact hd s h
        · rw [List.mem_singleton] at h; rw [h]
          rw [List.getD_eq_getElem?_getD, List.getElem?_eq_getElem (by omega)] at hok
          exact hok
      repeat (first | (apply G.ex (hd := rfl); case h => (first | exact Ex.move rfl | exact Ex.add rfl rfl (by omega))) | refine G.nil ?_ | refine GC.region ?_ | refine GC.skip ?_ | refine GE.then_normal ?_ | refine GE.block_normal ?_ | refine GC.cond_no rfl (by first | assumption | omega) ?_)
      refine GE.loop (k + 1) ⟨by omega, hd2⟩ (by omega) (by simp only [fits]; repeat (first | exact trivial | refine And.intro rfl ?_)) (by repeat (first | exact Takes.nil | apply Takes.dup rfl | apply Takes.cons | exact Take1.here | apply Take1.there)) (by repeat (first | exact Subs.refl | refine Subs.skip ?_))
    · repeat (first | (apply G.ex (hd := rfl); case h => (first | exact Ex.move rfl | exact Ex.assign rfl)) | refine G.nil ?_ | refine GC.seq ?_ | refine GC.region ?_ | refine GC.ret ?_ | refine GE.then_normal ?_ | refine GE.then_ret ?_ | refine GE.block_ret ?_ | refine GC.cond_yes rfl (by first | assumption | omega) ?_)
      refine GE.ret (by first | exact .inl rfl | exact .inr rfl) (by first | exact res0 Tryd.results29 | exact res1 Tryd.results29 rfl | exact res2 Tryd.results29 rfl rfl | exact resR1 Tryd.results29 (by first | exact RV.tmp rfl | exact RV.cell rfl (eP_len _) | exact RV.cell rfl rfl | exact RV.cell1 rfl) | exact resR2 Tryd.results29 (by first | exact RV.tmp rfl | exact RV.cell rfl (eP_len _) | exact RV.cell rfl rfl | exact RV.cell1 rfl) (by first | exact RV.tmp rfl | exact RV.cell rfl (eP_len _) | exact RV.cell rfl rfl | exact RV.cell1 rfl) | exact resR3 Tryd.results29 (by first | exact RV.tmp rfl | exact RV.cell rfl (eP_len _) | exact RV.cell rfl rfl | exact RV.cell1 rfl) (by first | exact RV.tmp rfl | exact RV.cell rfl (eP_len _) | exact RV.cell rfl rfl | exact RV.cell1 rfl) (by first | exact RV.tmp rfl | exact RV.cell rfl (eP_len _) | exact RV.cell rfl rfl | exact RV.cell1 rfl)) ⟨(k : Int), rfl, ⟨fun _ => ⟨_, hmem, hok⟩, fun _ => by omega⟩, rfl⟩ (by repeat (first | exact Takes.nil | apply Takes.dup rfl | apply Takes.cons | exact Take1.here | apply Take1.there)) (by repeat (first | exact Subs.refl | refine Subs.skip ?_))
  · repeat (first | (apply G.ex (hd := rfl); case h => (first | exact Ex.assign rfl)) | refine G.nil ?_ | refine GC.seq ?_ | refine GC.region ?_ | refine GC.ret ?_ | refine GC.exit ?_ | refine GE.then_normal ?_ | refine GE.then_exit ?_ | refine GE.block_hit ?_)
    refine GE.ret (by first | exact .inl rfl | exact .inr rfl) (by first | exact res0 Tryd.results29 | exact res1 Tryd.results29 rfl | exact res2 Tryd.results29 rfl rfl | exact resR1 Tryd.results29 (by first | exact RV.tmp rfl | exact RV.cell rfl (eP_len _) | exact RV.cell rfl rfl | exact RV.cell1 rfl) | exact resR2 Tryd.results29 (by first | exact RV.tmp rfl | exact RV.cell rfl (eP_len _) | exact RV.cell rfl rfl | exact RV.cell1 rfl) (by first | exact RV.tmp rfl | exact RV.cell rfl (eP_len _) | exact RV.cell rfl rfl | exact RV.cell1 rfl) | exact resR3 Tryd.results29 (by first | exact RV.tmp rfl | exact RV.cell rfl (eP_len _) | exact RV.cell rfl rfl | exact RV.cell1 rfl) (by first | exact RV.tmp rfl | exact RV.cell rfl (eP_len _) | exact RV.cell rfl rfl | exact RV.cell1 rfl) (by first | exact RV.tmp rfl | exact RV.cell rfl (eP_len _) | exact RV.cell rfl rfl | exact RV.cell1 rfl)) ⟨-1, rfl, ⟨fun h => absurd h (by decide), fun ⟨s, hs', hn'⟩ => absurd (hd s (by rw [List.take_of_length_le (by omega)]; exact hs')) hn'⟩, rfl⟩ (by repeat (first | exact Takes.nil | apply Takes.dup rfl | apply Takes.cons | exact Take1.here | apply Take1.there)) (by repeat (first | exact Subs.refl | refine Subs.skip ?_))
theorem contn_sp (f : FuncId) [hF : Fun Tryd.prog f] (hf : ∀ l : List UInt8, l.length ≤ 1000000 → Spec Tryd.prog f [.string (sOf l)] [] fun v give => v = .bool (decide (¬ NameOk l)) ∧ give = [])
    (r : Res) (ao : Option Addr) (n c : Nat) (l : List (List UInt8)) [hr : RdR r ao n c 1 (flat eO l)] (hl : l.length = n) (hn : n ≤ 1000000) (hs : ∀ s ∈ l, s.length ≤ 1000000) :
    Spec Tryd.prog 21 [.slice ao n c, .func (.func f) #[] #[]] [r] fun v give => v = .bool (decide (∃ s ∈ l, ¬ NameOk s)) ∧ give = [r] := by
  refine Spec.intro Tryd.func21 rfl Tryd.ntmps21 rfl fun w0 rest rs_ hrs_ => ?_
  simp only [List.cons_append, List.nil_append] at hrs_
  subst hrs_
  repeat (first | (apply G.ex (hd := rfl); case h => (first | exact Ex.move rfl | exact Ex.assign rfl)) | refine G.nil ?_ | refine GC.seq ?_ | refine GC.region ?_ | refine GE.then_normal ?_)
  first | refine G.call (caps := []) (idxn_sp f hf r ao n c l hl hn hs) rfl rfl rfl rfl (by repeat (first | exact Takes.nil | apply Takes.dup rfl | apply Takes.cons | exact Take1.here | apply Take1.there)) ?_ | refine G.callU (caps := []) (idxn_sp f hf r ao n c l hl hn hs) rfl rfl rfl (by repeat (first | exact Takes.nil | apply Takes.dup rfl | apply Takes.cons | exact Take1.here | apply Take1.there)) ?_
  rintro v_ give_ ⟨k, rfl, hk, rfl⟩ rs_ hrs_
  simp only [List.cons_append, List.nil_append] at hrs_
  subst hrs_
  repeat (first | (apply G.ex (hd := rfl); case h => (first | exact Ex.geq rfl rfl | exact Ex.assign rfl)) | refine G.nil ?_ | refine GC.ret ?_ | refine GE.then_normal ?_)
  refine GE.ret (by first | exact .inl rfl | exact .inr rfl) (by first | exact res0 Tryd.results21 | exact res1 Tryd.results21 rfl | exact res2 Tryd.results21 rfl rfl | exact resR1 Tryd.results21 (by first | exact RV.tmp rfl | exact RV.cell rfl (eP_len _) | exact RV.cell rfl rfl | exact RV.cell1 rfl) | exact resR2 Tryd.results21 (by first | exact RV.tmp rfl | exact RV.cell rfl (eP_len _) | exact RV.cell rfl rfl | exact RV.cell1 rfl) (by first | exact RV.tmp rfl | exact RV.cell rfl (eP_len _) | exact RV.cell rfl rfl | exact RV.cell1 rfl) | exact resR3 Tryd.results21 (by first | exact RV.tmp rfl | exact RV.cell rfl (eP_len _) | exact RV.cell rfl rfl | exact RV.cell1 rfl) (by first | exact RV.tmp rfl | exact RV.cell rfl (eP_len _) | exact RV.cell rfl rfl | exact RV.cell1 rfl) (by first | exact RV.tmp rfl | exact RV.cell rfl (eP_len _) | exact RV.cell rfl rfl | exact RV.cell1 rfl)) ⟨congrArg Value.bool (decide_eq_decide.2 hk), rfl⟩ (by repeat (first | exact Takes.nil | apply Takes.dup rfl | apply Takes.cons | exact Take1.here | apply Take1.there)) (by repeat (first | exact Subs.refl | refine Subs.skip ?_))
theorem badn_sp (l : List UInt8) (hl : l.length ≤ 1000000) : Spec Tryd.prog 22 [.string (sOf l)] [] fun v give => v = .bool (decide (¬ NameOk l)) ∧ give = [] := by
  refine Spec.intro Tryd.func22 rfl Tryd.ntmps22 rfl fun w0 rest rs_ hrs_ => ?_
  simp only [List.cons_append, List.nil_append] at hrs_
  subst hrs_
  repeat (first | (apply G.ex (hd := rfl); case h => (first | exact Ex.move rfl | exact Ex.assign rfl)) | refine G.nil ?_ | refine GC.seq ?_ | refine GC.region ?_ | refine GE.then_normal ?_)
  first | refine G.call (caps := []) (name_sp l hl) rfl rfl rfl rfl (by repeat (first | exact Takes.nil | apply Takes.dup rfl | apply Takes.cons | exact Take1.here | apply Take1.there)) ?_ | refine G.callU (caps := []) (name_sp l hl) rfl rfl rfl (by repeat (first | exact Takes.nil | apply Takes.dup rfl | apply Takes.cons | exact Take1.here | apply Take1.there)) ?_
  rintro v_ give_ ⟨rfl, rfl⟩ rs_ hrs_
  simp only [List.cons_append, List.nil_append] at hrs_
  subst hrs_
  repeat (first | (apply G.ex (hd := rfl); case h => (first | exact Ex.assign rfl | exact Ex.notD rfl)) | refine G.nil ?_ | refine GC.ret ?_ | refine GE.then_normal ?_)
  refine GE.ret (by first | exact .inl rfl | exact .inr rfl) (by first | exact res0 Tryd.results22 | exact res1 Tryd.results22 rfl | exact res2 Tryd.results22 rfl rfl | exact resR1 Tryd.results22 (by first | exact RV.tmp rfl | exact RV.cell rfl (eP_len _) | exact RV.cell rfl rfl | exact RV.cell1 rfl) | exact resR2 Tryd.results22 (by first | exact RV.tmp rfl | exact RV.cell rfl (eP_len _) | exact RV.cell rfl rfl | exact RV.cell1 rfl) (by first | exact RV.tmp rfl | exact RV.cell rfl (eP_len _) | exact RV.cell rfl rfl | exact RV.cell1 rfl) | exact resR3 Tryd.results22 (by first | exact RV.tmp rfl | exact RV.cell rfl (eP_len _) | exact RV.cell rfl rfl | exact RV.cell1 rfl) (by first | exact RV.tmp rfl | exact RV.cell rfl (eP_len _) | exact RV.cell rfl rfl | exact RV.cell1 rfl) (by first | exact RV.tmp rfl | exact RV.cell rfl (eP_len _) | exact RV.cell rfl rfl | exact RV.cell1 rfl)) ⟨rfl, rfl⟩ (by repeat (first | exact Takes.nil | apply Takes.dup rfl | apply Takes.cons | exact Take1.here | apply Take1.there)) (by repeat (first | exact Subs.refl | refine Subs.skip ?_))
def faultN (l : List (List UInt8)) : Int := if 12 < l.length then 9 else if ∃ s ∈ l, ¬ NameOk s then 4 else 0
theorem faultN_sp (r : Res) (ao : Option Addr) (n c : Nat) (l : List (List UInt8)) [hr : RdR r ao n c 1 (flat eO l)] (hl : l.length = n) (hn : n ≤ 1000000) (hs : ∀ s ∈ l, s.length ≤ 1000000) :
    Spec Tryd.prog 15 [.slice ao n c] [r] fun v give => v = .int .i64 (faultN l) ∧ give = [r] := by
  subst hl
  refine Spec.intro Tryd.func15 rfl Tryd.ntmps15 rfl fun w0 rest rs_ hrs_ => ?_
  simp only [List.cons_append, List.nil_append] at hrs_
  subst hrs_
  repeat (first | (apply G.ex (hd := rfl); case h => (first | exact Ex.move rfl | exact Ex.gtr rfl rfl | exact Ex.lenSl rfl | exact Ex.assign rfl)) | refine G.nil ?_ | refine GC.seq ?_ | refine GC.region ?_ | refine GC.block ?_ | refine GE.then_normal ?_)
  unfold faultN
  by_cases h1 : 12 < l.length
  · rw [if_pos h1]
    repeat (first | (apply G.ex (hd := rfl); case h => (first | exact Ex.assign rfl)) | refine G.nil ?_ | refine GC.seq ?_ | refine GC.region ?_ | refine GC.ret ?_ | refine GE.then_normal ?_ | refine GE.then_ret ?_ | refine GE.block_ret ?_ | refine GC.cond_yes rfl (by first | assumption | omega) ?_)
    refine GE.ret (by first | exact .inl rfl | exact .inr rfl) (by first | exact res0 Tryd.results15 | exact res1 Tryd.results15 rfl | exact res2 Tryd.results15 rfl rfl | exact resR1 Tryd.results15 (by first | exact RV.tmp rfl | exact RV.cell rfl (eP_len _) | exact RV.cell rfl rfl | exact RV.cell1 rfl) | exact resR2 Tryd.results15 (by first | exact RV.tmp rfl | exact RV.cell rfl (eP_len _) | exact RV.cell rfl rfl | exact RV.cell1 rfl) (by first | exact RV.tmp rfl | exact RV.cell rfl (eP_len _) | exact RV.cell rfl rfl | exact RV.cell1 rfl) | exact resR3 Tryd.results15 (by first | exact RV.tmp rfl | exact RV.cell rfl (eP_len _) | exact RV.cell rfl rfl | exact RV.cell1 rfl) (by first | exact RV.tmp rfl | exact RV.cell rfl (eP_len _) | exact RV.cell rfl rfl | exact RV.cell1 rfl) (by first | exact RV.tmp rfl | exact RV.cell rfl (eP_len _) | exact RV.cell rfl rfl | exact RV.cell1 rfl)) ⟨rfl, rfl⟩ (by repeat (first | exact Takes.nil | apply Takes.dup rfl | apply Takes.cons | exact Take1.here | apply Take1.there)) (by repeat (first | exact Subs.refl | refine Subs.skip ?_))
  · rw [if_neg h1]
    repeat (first | (apply G.ex (hd := rfl); case h => (first | exact Ex.move rfl)) | refine GC.seq ?_ | refine GC.region ?_ | refine GC.cond_no rfl (by first | assumption | omega) ?_)
    first | refine G.call (caps := []) (contn_sp 22 badn_sp r ao l.length c l rfl hn hs) rfl rfl rfl rfl (by repeat (first | exact Takes.nil | apply Takes.dup rfl | apply Takes.cons | exact Take1.here | apply Take1.there)) ?_ | refine G.callU (caps := []) (contn_sp 22 badn_sp r ao l.length c l rfl hn hs) rfl rfl rfl (by repeat (first | exact Takes.nil | apply Takes.dup rfl | apply Takes.cons | exact Take1.here | apply Take1.there)) ?_
    rintro v_ give_ ⟨rfl, rfl⟩ rs_ hrs_
    simp only [List.cons_append, List.nil_append] at hrs_
    subst hrs_
    by_cases h2 : ∃ s ∈ l, ¬ NameOk s
    · rw [if_pos h2]
      repeat (first | (apply G.ex (hd := rfl); case h => (first | exact Ex.assign rfl)) | refine G.nil ?_ | refine GC.seq ?_ | refine GC.region ?_ | refine GC.ret ?_ | refine GE.then_normal ?_ | refine GE.then_ret ?_ | refine GE.block_ret ?_ | refine GC.cond_yes rfl (by first | assumption | omega) ?_)
      refine GE.ret (by first | exact .inl rfl | exact .inr rfl) (by first | exact res0 Tryd.results15 | exact res1 Tryd.results15 rfl | exact res2 Tryd.results15 rfl rfl | exact resR1 Tryd.results15 (by first | exact RV.tmp rfl | exact RV.cell rfl (eP_len _) | exact RV.cell rfl rfl | exact RV.cell1 rfl) | exact resR2 Tryd.results15 (by first | exact RV.tmp rfl | exact RV.cell rfl (eP_len _) | exact RV.cell rfl rfl | exact RV.cell1 rfl) (by first | exact RV.tmp rfl | exact RV.cell rfl (eP_len _) | exact RV.cell rfl rfl | exact RV.cell1 rfl) | exact resR3 Tryd.results15 (by first | exact RV.tmp rfl | exact RV.cell rfl (eP_len _) | exact RV.cell rfl rfl | exact RV.cell1 rfl) (by first | exact RV.tmp rfl | exact RV.cell rfl (eP_len _) | exact RV.cell rfl rfl | exact RV.cell1 rfl) (by first | exact RV.tmp rfl | exact RV.cell rfl (eP_len _) | exact RV.cell rfl rfl | exact RV.cell1 rfl)) ⟨rfl, rfl⟩ (by repeat (first | exact Takes.nil | apply Takes.dup rfl | apply Takes.cons | exact Take1.here | apply Take1.there)) (by repeat (first | exact Subs.refl | refine Subs.skip ?_))
    · rw [if_neg h2]
      repeat (first | (apply G.ex (hd := rfl); case h => (first | exact Ex.assign rfl)) | refine G.nil ?_ | refine GC.seq ?_ | refine GC.region ?_ | refine GC.skip ?_ | refine GC.ret ?_ | refine GE.then_normal ?_ | refine GE.block_normal ?_ | refine GC.cond_no rfl (by first | assumption | omega) ?_)
      refine GE.ret (by first | exact .inl rfl | exact .inr rfl) (by first | exact res0 Tryd.results15 | exact res1 Tryd.results15 rfl | exact res2 Tryd.results15 rfl rfl | exact resR1 Tryd.results15 (by first | exact RV.tmp rfl | exact RV.cell rfl (eP_len _) | exact RV.cell rfl rfl | exact RV.cell1 rfl) | exact resR2 Tryd.results15 (by first | exact RV.tmp rfl | exact RV.cell rfl (eP_len _) | exact RV.cell rfl rfl | exact RV.cell1 rfl) (by first | exact RV.tmp rfl | exact RV.cell rfl (eP_len _) | exact RV.cell rfl rfl | exact RV.cell1 rfl) | exact resR3 Tryd.results15 (by first | exact RV.tmp rfl | exact RV.cell rfl (eP_len _) | exact RV.cell rfl rfl | exact RV.cell1 rfl) (by first | exact RV.tmp rfl | exact RV.cell rfl (eP_len _) | exact RV.cell rfl rfl | exact RV.cell1 rfl) (by first | exact RV.tmp rfl | exact RV.cell rfl (eP_len _) | exact RV.cell rfl rfl | exact RV.cell1 rfl)) ⟨rfl, rfl⟩ (by repeat (first | exact Takes.nil | apply Takes.dup rfl | apply Takes.cons | exact Take1.here | apply Take1.there)) (by repeat (first | exact Subs.refl | refine Subs.skip ?_))
/-- the names that parts lead to -/
def goF : List (List UInt8) → List (List UInt8) → List (List UInt8) × Int
  | out, [] => (out, 0)
  | out, p :: t => if p = [] ∨ p = [46] then goF out t else if p = [46, 46] then goF out.dropLast t else if ¬ NameOk p then ([], 4) else if out.length = 12 then ([], 9) else goF (out ++ [p]) t
def walkF (names : List (List UInt8)) (p : List UInt8) : List (List UInt8) × Int := if 200 < p.length then ([], 1) else goF names (splitF p)
theorem split_len (s : List UInt8) : ∀ p ∈ splitF s, p.length ≤ s.length := by
  induction s with
  | nil => intro p hp; simp [splitF] at hp; subst hp; exact Nat.le_refl _
  | cons c t ih =>
    intro p hp
    rw [splitF_cons] at hp
    by_cases hc : c = 47
    · rw [if_pos hc] at hp
      rcases List.mem_cons.1 hp with rfl | hp
      · exact Nat.zero_le _
      · have := ih p hp; simp; omega
    · rw [if_neg hc] at hp
      cases e : splitF t with
      | nil => exact absurd e (splitF_ne t)
      | cons h r =>
        rw [e] at hp
        rcases List.mem_cons.1 hp with rfl | hp
        · have := ih h (by rw [e]; simp); simp; omega
        · have := ih p (by rw [e]; exact List.mem_cons_of_mem _ hp); simp; omega
theorem goF_step (o : List (List UInt8)) (l : List (List UInt8)) (k : Nat) (h : k < l.length) : goF o (l.drop k) = if l.getD k [] = [] ∨ l.getD k [] = [46] then goF o (l.drop (k + 1)) else if l.getD k [] = [46, 46] then goF o.dropLast (l.drop (k + 1)) else if ¬ NameOk (l.getD k []) then ([], 4) else if o.length = 12 then ([], 9) else goF (o ++ [l.getD k []]) (l.drop (k + 1)) := by
  rw [List.drop_eq_getElem_cons h, List.getD_eq_getElem?_getD, List.getElem?_eq_getElem h]; rfl
theorem flat_takeO (k : Nat) : ∀ l : List (List UInt8), (flat eO l).take k = flat eO (l.take k) := by
  induction k with
  | zero => intro l; rfl
  | succ k ih =>
    intro l
    cases l with
    | nil => rfl
    | cons a t => show List.take (k + 1) (.string (sOf a) :: flat eO t) = .string (sOf a) :: flat eO (t.take k); rw [List.take_succ_cons, ih]
theorem cutO (o : List (List UInt8)) : (flat eO o).take ((o.length - 1) * 1) = flat eO o.dropLast := by
  rw [Nat.mul_one, flat_takeO, List.dropLast_eq_take]
theorem subA_zero {ao : Option Addr} {c s : Nat} : subA ao c 0 s = ao := by
  unfold subA; split
  · rfl
  · cases ao with
    | none => rfl
    | some a => simp [Addr.add]
set_option maxHeartbeats 8000000 in
theorem walk_sp (r : Res) (ao : Option Addr) (n c : Nat) (names : List (List UInt8)) [hr : RdR r ao n c 1 (flat eO names)] (hl : names.length = n) (hn : n ≤ 12) (p : List UInt8) (hp : p.length ≤ 9223372036854775807) :
    Spec Tryd.prog 13 [.slice ao n c, .string (sOf p)] [r] fun v give => ∃ oa oc, v = .tuple #[.slice oa (walkF names p).1.length oc, .int .i64 (walkF names p).2] ∧ (walkF names p).1.length ≤ 12 ∧ give = [.vec 9 1 oa (walkF names p).1.length oc (flat eO (walkF names p).1), r] := by
  refine Spec.introM Tryd.func13 rfl Tryd.ntmps13 rfl fun w0 rest rs_ hrs_ => ?_
  simp only [List.cons_append, List.nil_append] at hrs_
  subst hrs_
  repeat (first | refine GC.seq ?_ | refine GC.region ?_)
  refine G.alloc rfl (fun r4 => ?_)
  repeat (first | fail)
  refine G.alloc rfl (fun r5 => ?_)
  by_cases h200 : 200 < p.length
  · have e : walkF names p = ([], 1) := by unfold walkF; rw [if_pos h200]
    rw [e]
    repeat (first | refine G.storeB rfl rfl rfl rfl rfl ?_ | (apply G.ex (hd := rfl); case h => (first | exact Ex.move rfl | exact Ex.lenO rfl | exact Ex.gtr rfl rfl)) | refine G.nil ?_ | refine GC.seq ?_ | refine GC.region ?_ | refine GC.ret ?_ | refine GE.then_normal ?_ | refine GE.then_ret ?_ | refine GC.cond_yes rfl (by first | assumption | omega) ?_)
    refine GE.nilvec 9 1 ?_
    refine GE.retM0 (by first | exact .inl rfl | exact .inr rfl) (by first | exact res0 Tryd.results13 | exact res1 Tryd.results13 rfl | exact res2 Tryd.results13 rfl rfl | exact resR1 Tryd.results13 (by first | exact RV.tmp rfl | exact RV.cell rfl (eP_len _) | exact RV.cell rfl rfl | exact RV.cell1 rfl) | exact resR2 Tryd.results13 (by first | exact RV.tmp rfl | exact RV.cell rfl (eP_len _) | exact RV.cell rfl rfl | exact RV.cell1 rfl) (by first | exact RV.tmp rfl | exact RV.cell rfl (eP_len _) | exact RV.cell rfl rfl | exact RV.cell1 rfl) | exact resR3 Tryd.results13 (by first | exact RV.tmp rfl | exact RV.cell rfl (eP_len _) | exact RV.cell rfl rfl | exact RV.cell1 rfl) (by first | exact RV.tmp rfl | exact RV.cell rfl (eP_len _) | exact RV.cell rfl rfl | exact RV.cell1 rfl) (by first | exact RV.tmp rfl | exact RV.cell rfl (eP_len _) | exact RV.cell rfl rfl | exact RV.cell1 rfl)) ⟨none, 0, rfl, by decide, rfl⟩ (by repeat (first | exact Takes.nil | apply Takes.dup rfl | apply Takes.cons | exact Take1.here | apply Take1.there)) (by repeat (first | exact Subs.refl | refine Subs.skip ?_))
  · have e : walkF names p = goF names (splitF p) := by unfold walkF; rw [if_neg h200]
    rw [e]
    repeat (first | (apply G.ex (hd := rfl); case h => (first | exact Ex.move rfl | exact Ex.lenO rfl | exact Ex.gtr rfl rfl)) | refine G.nil ?_ | refine GC.seq ?_ | refine GC.region ?_ | refine GC.skip ?_ | refine GE.then_normal ?_ | refine GC.cond_no rfl (by first | assumption | omega) ?_)
    first | refine G.call (caps := []) (cloneS_sp r ao n c names hl (by omega)) rfl rfl rfl rfl (by repeat (first | exact Takes.nil | apply Takes.dup rfl | apply Takes.cons | exact Take1.here | apply Take1.there)) ?_ | refine G.callU (caps := []) (cloneS_sp r ao n c names hl (by omega)) rfl rfl rfl (by repeat (first | exact Takes.nil | apply Takes.dup rfl | apply Takes.cons | exact Take1.here | apply Take1.there)) ?_
    rintro v_ give_ ⟨ca, cc, rfl, rfl⟩ rs_ hrs_
    simp only [List.cons_append, List.nil_append] at hrs_
    subst hrs_
    refine G.alloc rfl (fun ob => ?_)
    repeat (first | refine G.storeB rfl rfl rfl rfl rfl ?_ | (apply G.ex (hd := rfl); case h => (first | exact Ex.move rfl)) | refine G.nil ?_ | refine GC.seq ?_ | refine GC.region ?_ | refine GE.then_normal ?_)
    first | refine G.call (caps := []) (splitq_sp p) rfl rfl rfl rfl (by repeat (first | exact Takes.nil | apply Takes.dup rfl | apply Takes.cons | exact Take1.here | apply Take1.there)) ?_ | refine G.callU (caps := []) (splitq_sp p) rfl rfl rfl (by repeat (first | exact Takes.nil | apply Takes.dup rfl | apply Takes.cons | exact Take1.here | apply Take1.there)) ?_
    rintro v_ give_ ⟨pb, sb, kb, rfl, rfl⟩ rs_ hrs_
    simp only [List.cons_append, List.nil_append] at hrs_
    subst hrs_
    repeat (first | refine G.nil ?_ | refine GC.block ?_ | refine GE.then_normal ?_)
    refine GC.rangeFunc2 (caps := [.pointer (some (badr pb 0)), .pointer (some (badr sb 0)), .pointer (some (badr kb 0))]) (need := [.blk pb 9 [.string (sOf [47])], .blk sb 9 [.string (sOf p)], .blk kb 3 [.int .i64 0], .blk ob 23 [.slice ca n cc], .vec 9 1 ca n cc (flat eO names), .blk r4 23 [.slice none 0 0], .blk r5 24 [.int .i64 0]])
      (post := fun _ g => ∃ (o : List (List UInt8)) (oa : Option Addr) (oc : Nat), goF names (splitF p) = (o, 0) ∧ o.length ≤ 12 ∧ g = [.blk ob 23 [.slice oa o.length oc], .vec 9 1 oa o.length oc (flat eO o), .blk r4 23 [.slice none 0 0], .blk r5 24 [.int .i64 0]])
      (stop := fun _ g => ∃ E : Int, goF names (splitF p) = ([], E) ∧ g = [.blk r4 23 [.slice none 0 0], .blk r5 24 [.int .i64 E]]) rfl (fun yl rec_ hst hpn hps hass hbody hfr => ?_) (by repeat (first | exact Takes.nil | apply Takes.dup rfl | apply Takes.cons | exact Take1.here | apply Take1.there)) ?_ ?_
    · have hs := split1_sp p (by omega) pb sb kb yl rec_ (κ := List (List UInt8) × Option Addr × Nat) (ι' := Int) (fun k x => goF names (splitF p) = goF x.1 ((splitF p).drop k) ∧ x.1.length ≤ 12) (fun E => goF names (splitF p) = ([], E))
        (fun x => [.blk ob 23 [.slice x.2.1 x.1.length x.2.2], .vec 9 1 x.2.1 x.1.length x.2.2 (flat eO x.1), .blk r4 23 [.slice none 0 0], .blk r5 24 [.int .i64 0]]) (fun E => [.blk r4 23 [.slice none 0 0], .blk r5 24 [.int .i64 E]]) ?_ (names, ca, cc) ⟨rfl, by rw [hl]; exact hn⟩
      · subst hl
        refine hs.mono ?_
        rintro v give (⟨g, ⟨⟨o, oa, oc⟩, ⟨h1, h2⟩, rfl⟩, rfl⟩ | ⟨g, ⟨E, h1, rfl⟩, rfl⟩)
        · rw [List.drop_length] at h1
          exact .inl ⟨_, ⟨o, oa, oc, h1, h2, rfl⟩, rfl⟩
        · exact .inr ⟨_, ⟨E, h1, rfl⟩, rfl⟩
      · rintro k ⟨o, oa, oc⟩ hk ⟨hgo, hol⟩
        simp only at hgo hol
        rw [goF_step o _ k hk] at hgo
        have hql := split_len p ((splitF p).getD k []) (by rw [List.getD_eq_getElem?_getD, List.getElem?_eq_getElem hk]; exact List.getElem_mem hk)
        obtain ⟨q, hq⟩ : ∃ q, (splitF p).getD k [] = q := ⟨_, rfl⟩
        rw [hq] at hgo hql ⊢
        refine YSpec.one hps hfr rfl fun w1 rest1 rs1 hrs1 => ?_
        simp only [List.cons_append, List.nil_append] at hrs1
        subst hrs1
        rw [hass, hbody]
        repeat (first | refine GRC.region rfl ?_ | refine GE.nrm ?_ | (apply G.ex (hd := rfl); case h => (first | exact Ex.assign rfl)) | refine G.nil ?_)
        refine GE.begin hst (by repeat (first | exact Takes.nil | apply Takes.dup rfl | apply Takes.cons | exact Take1.here | apply Take1.there)) ?_
        by_cases c1 : q = []
        · rw [if_pos (.inl c1)] at hgo
          repeat (first | refine GRC.seq ?_ | refine GRC.region rfl ?_ | refine GRC.block ?_ | refine GRC.skip ?_ | refine GE.nrm ?_ | refine GE.thenR ?_ | refine GRC.cond_t rfl ?_ | (apply G.ex (hd := rfl); case h => (first | exact Ex.move rfl | exact Ex.eqO rfl rfl | exact Ex.assign rfl | exact Ex.pickT rfl (by first | assumption | omega) rfl)) | refine G.g_ft rfl rfl (by first | assumption | omega) rfl ?_ | refine G.nil ?_ | refine GE.block_normal ?_)
          refine GE.endR2 hst hpn ⟨(o, oa, oc), ⟨hgo, hol⟩, rfl⟩ (by repeat (first | exact Takes.nil | apply Takes.dup rfl | apply Takes.cons | exact Take1.here | apply Take1.there)) (by repeat (first | exact Subs.refl | refine Subs.skip ?_))
        · by_cases c2 : q = [46]
          · rw [if_pos (.inr c2)] at hgo
            repeat (first | refine GRC.seq ?_ | refine GRC.region rfl ?_ | refine GRC.block ?_ | refine GRC.skip ?_ | refine GE.nrm ?_ | refine GE.thenR ?_ | refine GRC.cond_yes rfl (by first | assumption | omega) ?_ | (apply G.ex (hd := rfl); case h => (first | exact Ex.move rfl | exact Ex.eqO rfl rfl | exact Ex.assign rfl | exact Ex.pickF rfl (by first | assumption | omega) rfl)) | refine G.g_ff rfl rfl (by first | assumption | omega) ?_ | refine G.nil ?_ | refine GE.block_normal ?_)
            refine GE.endR2 hst hpn ⟨(o, oa, oc), ⟨hgo, hol⟩, rfl⟩ (by repeat (first | exact Takes.nil | apply Takes.dup rfl | apply Takes.cons | exact Take1.here | apply Take1.there)) (by repeat (first | exact Subs.refl | refine Subs.skip ?_))
          · rw [if_neg (fun h => h.elim c1 c2)] at hgo
            by_cases c3 : q = [46, 46]
            · rw [if_pos c3] at hgo
              repeat (first | refine GRC.seq ?_ | refine GRC.region rfl ?_ | refine GRC.block ?_ | refine GE.nrm ?_ | refine GE.thenR ?_ | refine GRC.cond_yes rfl (by first | assumption | omega) ?_ | refine GRC.cond_no rfl (by first | assumption | omega) ?_ | (apply G.ex (hd := rfl); case h => (first | exact Ex.move rfl | exact Ex.eqO rfl rfl | exact Ex.loadB rfl rfl | exact Ex.sub rfl rfl (by omega) | exact Ex.lenSl rfl | exact Ex.assign rfl | exact Ex.max rfl rfl | exact Ex.pickF rfl (by first | assumption | omega) rfl)) | refine G.g_ff rfl rfl (by first | assumption | omega) ?_ | refine G.nil ?_)
              rw [show max (0 : Int) ((o.length : Int) - 1) = ((o.length - 1 : Nat) : Int) by omega]
              refine G.len oa (m := o.length) (c := oc) fun ⟨_, hoc, _⟩ => ?_
              refine G.ex (Ex.slHi (r := o.length - 1) rfl rfl (by omega)) rfl ?_
              rw [subA_zero]
              refine G.conv (fun w_ H_ => Holds.cutRow (o.length - 1) (by omega) (H_.take (need := [.vec 9 1 oa o.length oc (flat eO o)]) (by repeat (first | exact Takes.nil | apply Takes.dup rfl | apply Takes.cons | exact Take1.here | apply Take1.there)))) ?_
              try simp only [List.append_eq, List.nil_append, List.cons_append]
              rw [cutO o]
              repeat (first | refine GE.nrm ?_ | refine G.storeB rfl rfl rfl rfl rfl ?_ | refine G.nil ?_ | refine GE.block_normal ?_)
              refine GE.endR2 hst hpn ⟨(o.dropLast, oa, oc), ⟨hgo, by show o.dropLast.length ≤ 12; rw [List.length_dropLast]; omega⟩, rfl⟩ (by rw [List.length_dropLast]; repeat (first | exact Takes.nil | apply Takes.dup rfl | apply Takes.cons | exact Take1.here | apply Take1.there)) (by repeat (first | exact Subs.refl | refine Subs.skip ?_))
            · rw [if_neg c3] at hgo
              by_cases c4 : NameOk q
              · have c4' : ¬ ¬ NameOk q := fun h => h c4
                rw [if_neg (fun h => h c4)] at hgo
                repeat (first | refine GRC.seq ?_ | refine GRC.region rfl ?_ | refine GRC.block ?_ | refine GE.nrm ?_ | refine GE.thenR ?_ | refine GRC.cond_no rfl (by first | assumption | omega) ?_ | (apply G.ex (hd := rfl); case h => (first | exact Ex.move rfl | exact Ex.eqO rfl rfl | exact Ex.assign rfl | exact Ex.pickF rfl (by first | assumption | omega) rfl)) | refine G.g_ff rfl rfl (by first | assumption | omega) ?_ | refine G.nil ?_)
                first | refine G.call (caps := []) (name_sp q (by omega)) rfl rfl rfl rfl (by repeat (first | exact Takes.nil | apply Takes.dup rfl | apply Takes.cons | exact Take1.here | apply Take1.there)) ?_ | refine G.callU (caps := []) (name_sp q (by omega)) rfl rfl rfl (by repeat (first | exact Takes.nil | apply Takes.dup rfl | apply Takes.cons | exact Take1.here | apply Take1.there)) ?_
                rintro v_ give_ ⟨rfl, rfl⟩ rs_ hrs_
                simp only [List.cons_append, List.nil_append] at hrs_
                subst hrs_
                by_cases c5 : o.length = 12
                · rw [if_pos c5] at hgo
                  repeat (first | refine GRC.seq ?_ | refine GRC.region rfl ?_ | refine GRC.ret ?_ | refine GE.nrm ?_ | refine GE.thenR ?_ | refine GRC.cond_yes rfl (by first | assumption | omega) ?_ | refine GRC.cond_no rfl (by first | assumption | omega) ?_ | refine G.storeB rfl rfl rfl rfl rfl ?_ | (apply G.ex (hd := rfl); case h => (first | exact Ex.loadB rfl rfl | exact Ex.eqI rfl rfl | exact Ex.lenSl rfl | exact Ex.assign rfl | exact Ex.notD rfl)) | refine G.nil ?_ | refine GE.block_ret ?_)
                  refine GE.endRet ⟨9, hgo, rfl⟩ (by repeat (first | exact Takes.nil | apply Takes.dup rfl | apply Takes.cons | exact Take1.here | apply Take1.there)) (by repeat (first | exact Subs.refl | refine Subs.skip ?_))
                · rw [if_neg c5] at hgo
                  have hcat : flat eO o ++ flat eO [q] = flat eO (o ++ [q]) := (flat_append ..).symm
                  repeat (first | refine GRC.seq ?_ | refine GRC.region rfl ?_ | refine GE.nrm ?_ | refine GE.thenR ?_ | refine GRC.cond_no rfl (by first | assumption | omega) ?_ | (apply G.ex (hd := rfl); case h => (first | exact Ex.move rfl | exact Ex.loadB rfl rfl | exact Ex.eqI rfl rfl | exact Ex.lenSl rfl | exact Ex.assign rfl | exact Ex.notD rfl)) | refine G.nil ?_)
                  refine G.lit rfl (by rfl) (by rfl) (by rfl) (by rfl) (by rfl) (by rfl) rfl (fun q1 => ?_)
                  repeat (first | fail)
                  refine G.app rfl rfl (by rfl) (by omega) rfl (hcat) (fun a2 c2 rs_ hrs_ => ?_)
                  try simp only at hrs_
                  subst hrs_
                  repeat (first | refine GE.nrm ?_ | refine G.storeB rfl rfl rfl rfl rfl ?_ | refine G.nil ?_ | refine GE.block_normal ?_)
                  refine GE.endR2 hst hpn ⟨(o ++ [q], a2, c2), ⟨hgo, by rw [List.length_append]; simp only [List.length_singleton]; omega⟩, by simp only [List.length_append, List.length_singleton]; rfl⟩ (by repeat (first | exact Takes.nil | apply Takes.dup rfl | apply Takes.cons | exact Take1.here | apply Take1.there)) (by repeat (first | exact Subs.refl | refine Subs.skip ?_))
              · rw [if_pos c4] at hgo
                repeat (first | refine GRC.seq ?_ | refine GRC.region rfl ?_ | refine GRC.block ?_ | refine GE.nrm ?_ | refine GE.thenR ?_ | refine GRC.cond_no rfl (by first | assumption | omega) ?_ | (apply G.ex (hd := rfl); case h => (first | exact Ex.move rfl | exact Ex.eqO rfl rfl | exact Ex.assign rfl | exact Ex.pickF rfl (by first | assumption | omega) rfl)) | refine G.g_ff rfl rfl (by first | assumption | omega) ?_ | refine G.nil ?_)
                first | refine G.call (caps := []) (name_sp q (by omega)) rfl rfl rfl rfl (by repeat (first | exact Takes.nil | apply Takes.dup rfl | apply Takes.cons | exact Take1.here | apply Take1.there)) ?_ | refine G.callU (caps := []) (name_sp q (by omega)) rfl rfl rfl (by repeat (first | exact Takes.nil | apply Takes.dup rfl | apply Takes.cons | exact Take1.here | apply Take1.there)) ?_
                rintro v_ give_ ⟨rfl, rfl⟩ rs_ hrs_
                simp only [List.cons_append, List.nil_append] at hrs_
                subst hrs_
                repeat (first | refine GRC.seq ?_ | refine GRC.region rfl ?_ | refine GRC.ret ?_ | refine GE.nrm ?_ | refine GE.thenR ?_ | refine GRC.cond_yes rfl (by first | assumption | omega) ?_ | refine G.storeB rfl rfl rfl rfl rfl ?_ | (apply G.ex (hd := rfl); case h => (first | exact Ex.assign rfl | exact Ex.notD rfl)) | refine G.nil ?_ | refine GE.block_ret ?_)
                refine GE.endRet ⟨4, hgo, rfl⟩ (by repeat (first | exact Takes.nil | apply Takes.dup rfl | apply Takes.cons | exact Take1.here | apply Take1.there)) (by repeat (first | exact Subs.refl | refine Subs.skip ?_))
    · rintro D v g ⟨o, oa, oc, hgo, hol, rfl⟩ rs1 hrs1
      simp only [List.cons_append, List.nil_append] at hrs1
      subst hrs1
      rw [hgo]
      repeat (first | (apply G.ex (hd := rfl); case h => (first | exact Ex.loadB rfl rfl)) | refine GC.seq ?_ | refine GC.region ?_ | refine GE.then_normal ?_ | refine GE.block_normal ?_)
      first | refine G.call (caps := []) (cloneS_sp (.vec 9 1 oa o.length oc (flat eO o)) oa o.length oc o rfl (by omega)) rfl rfl rfl rfl (by repeat (first | exact Takes.nil | apply Takes.dup rfl | apply Takes.cons | exact Take1.here | apply Take1.there)) ?_ | refine G.callU (caps := []) (cloneS_sp (.vec 9 1 oa o.length oc (flat eO o)) oa o.length oc o rfl (by omega)) rfl rfl rfl (by repeat (first | exact Takes.nil | apply Takes.dup rfl | apply Takes.cons | exact Take1.here | apply Take1.there)) ?_
      rintro v_ give_ ⟨da, dc, rfl, rfl⟩ rs_ hrs_
      simp only [List.cons_append, List.nil_append] at hrs_
      subst hrs_
      repeat (first | refine G.storeB rfl rfl rfl rfl rfl ?_ | refine G.nil ?_ | refine GC.ret ?_ | refine GE.then_normal ?_)
      refine GE.retM (by first | exact .inl rfl | exact .inr rfl) (by repeat (first | exact Takes.nil | apply Takes.dup rfl | apply Takes.cons | exact Take1.here | apply Take1.there)) (by first | exact res0 Tryd.results13 | exact res1 Tryd.results13 rfl | exact res2 Tryd.results13 rfl rfl | exact resR1 Tryd.results13 (by first | exact RV.tmp rfl | exact RV.cell rfl (eP_len _) | exact RV.cell rfl rfl | exact RV.cell1 rfl) | exact resR2 Tryd.results13 (by first | exact RV.tmp rfl | exact RV.cell rfl (eP_len _) | exact RV.cell rfl rfl | exact RV.cell1 rfl) (by first | exact RV.tmp rfl | exact RV.cell rfl (eP_len _) | exact RV.cell rfl rfl | exact RV.cell1 rfl) | exact resR3 Tryd.results13 (by first | exact RV.tmp rfl | exact RV.cell rfl (eP_len _) | exact RV.cell rfl rfl | exact RV.cell1 rfl) (by first | exact RV.tmp rfl | exact RV.cell rfl (eP_len _) | exact RV.cell rfl rfl | exact RV.cell1 rfl) (by first | exact RV.tmp rfl | exact RV.cell rfl (eP_len _) | exact RV.cell rfl rfl | exact RV.cell1 rfl)) ⟨da, dc, rfl, hol, rfl⟩ (by repeat (first | exact Takes.nil | apply Takes.dup rfl | apply Takes.cons | exact Take1.here | apply Take1.there)) (by repeat (first | exact Subs.refl | refine Subs.skip ?_))
    · rintro D v g ⟨E, hgo, rfl⟩ rs1 hrs1
      simp only [List.cons_append, List.nil_append] at hrs1
      subst hrs1
      rw [hgo]
      repeat (first | refine GE.then_ret ?_ | refine GE.block_ret ?_)
      refine GE.nilvec 9 1 ?_
      refine GE.retM (by first | exact .inl rfl | exact .inr rfl) (by repeat (first | exact Takes.nil | apply Takes.dup rfl | apply Takes.cons | exact Take1.here | apply Take1.there)) (by first | exact res0 Tryd.results13 | exact res1 Tryd.results13 rfl | exact res2 Tryd.results13 rfl rfl | exact resR1 Tryd.results13 (by first | exact RV.tmp rfl | exact RV.cell rfl (eP_len _) | exact RV.cell rfl rfl | exact RV.cell1 rfl) | exact resR2 Tryd.results13 (by first | exact RV.tmp rfl | exact RV.cell rfl (eP_len _) | exact RV.cell rfl rfl | exact RV.cell1 rfl) (by first | exact RV.tmp rfl | exact RV.cell rfl (eP_len _) | exact RV.cell rfl rfl | exact RV.cell1 rfl) | exact resR3 Tryd.results13 (by first | exact RV.tmp rfl | exact RV.cell rfl (eP_len _) | exact RV.cell rfl rfl | exact RV.cell1 rfl) (by first | exact RV.tmp rfl | exact RV.cell rfl (eP_len _) | exact RV.cell rfl rfl | exact RV.cell1 rfl) (by first | exact RV.tmp rfl | exact RV.cell rfl (eP_len _) | exact RV.cell rfl rfl | exact RV.cell1 rfl)) ⟨none, 0, rfl, Nat.zero_le _, rfl⟩ (by repeat (first | exact Takes.nil | apply Takes.dup rfl | apply Takes.cons | exact Take1.here | apply Take1.there)) (by repeat (first | exact Subs.refl | refine Subs.skip ?_))
end path
end Go.Proofs.YtjfdpfjngajnlaaDoor
