/-
  CONTRACTS of packthreadkeep.RequestOf and sameRequest, by the kit.
-/
import Derived.Test.YthplilldkdehnaaAskF
import Derived.Test.YthplilldkdehnaaPathBy
namespace Go.Proofs.Ythplilldkdehnaa
open Go.RowKit
attribute [local irreducible] Ex G GC GE Gq FPost LPost
set_option linter.unusedVariables false
set_option linter.unusedSimpArgs false

namespace msg
open frame
def reqF (kind mark a b : Int) (data : List UInt8) : Rq :=
  let k := 1 + kind % 10
  let mk := mark % 4294967296
  if k = 1 then { Rq.zero with kind := k, mark := mk, path := pathF a, how := b % 32 }
  else if k = 2 then { Rq.zero with kind := k, mark := mk, handle := a % 30 }
  else if k = 3 then { Rq.zero with kind := k, mark := mk, handle := a % 30, at_ := b % 300, count := b.tdiv 300 % 102 }
  else if k = 4 then { Rq.zero with kind := k, mark := mk, handle := a % 30, at_ := b % 300, data := data.take 100 }
  else if k = 9 ∨ k = 10 then { Rq.zero with kind := k, mark := mk, path := pathF a, to_ := pathF b }
  else { Rq.zero with kind := k, mark := mk, path := pathF a }
set_option maxHeartbeats 4000000 in
theorem reqF_ok (kind mark a b : Int) (data : List UInt8) : (askF (reqF kind mark a b data)).2 = 0 ∧ 5 ≤ (askF (reqF kind mark a b data)).1.length ∧ (askF (reqF kind mark a b data)).1.length ≤ 1024 := by
  have hk : 1 + kind % 10 = 1 ∨ 1 + kind % 10 = 2 ∨ 1 + kind % 10 = 3 ∨ 1 + kind % 10 = 4 ∨ 1 + kind % 10 = 5 ∨ 1 + kind % 10 = 6 ∨ 1 + kind % 10 = 7 ∨ 1 + kind % 10 = 8 ∨ 1 + kind % 10 = 9 ∨ 1 + kind % 10 = 10 := by omega
  have hm : ¬ mark % 4294967296 < 0 ∧ ¬ (256 : Int) ^ 4 ≤ mark % 4294967296 := by
    rw [show (256 : Int) ^ 4 = 4294967296 from by decide]; omega
  have n4 : ∀ x m : Int, (0 < m ∧ m ≤ 300) → ¬ x % m < 0 ∧ ¬ (256 : Int) ^ 4 ≤ x % m := fun x m h => by
    have h1 := Int.emod_nonneg x (show m ≠ 0 by omega)
    have h2 := Int.emod_lt_of_pos x h.1
    rw [show (256 : Int) ^ 4 = 4294967296 from by decide]; omega
  have n2 : ∀ x m : Int, (0 < m ∧ m ≤ 300) → ¬ x % m < 0 ∧ ¬ (256 : Int) ^ 2 ≤ x % m := fun x m h => by
    have h1 := Int.emod_nonneg x (show m ≠ 0 by omega)
    have h2 := Int.emod_lt_of_pos x h.1
    rw [show (256 : Int) ^ 2 = 65536 from by decide]; omega
  have n1 : ∀ x m : Int, (0 < m ∧ m ≤ 200) → ¬ x % m < 0 ∧ ¬ (256 : Int) ^ 1 ≤ x % m := fun x m h => by
    have h1 := Int.emod_nonneg x (show m ≠ 0 by omega)
    have h2 := Int.emod_lt_of_pos x h.1
    rw [show (256 : Int) ^ 1 = 256 from by decide]; omega
  have pa := pathF_len a
  have pb := pathF_len b
  have hd : (data.take 100).length ≤ 100 := by rw [List.length_take]; omega
  have key : ∀ r : Rq, partsF r.kind ≠ [] → bareF r = true → (∀ p ∈ allP r.kind, fit r p = 0) → ((allP r.kind).flatMap (bytesF r)).length ≤ 1024 → (askF r).2 = 0 ∧ 5 ≤ (askF r).1.length ∧ (askF r).1.length ≤ 1024 := by
    intro r h1 h2 h3 h4
    have e : askF r = ((allP r.kind).flatMap (bytesF r), 0) := by
      unfold askF; rw [if_neg h1, if_neg (by rw [h2]; decide), if_pos ((all_ok _ _ _).2 ⟨rfl, h3⟩)]
    rw [e]
    refine ⟨rfl, ?_, h4⟩
    show 5 ≤ ((allP r.kind).flatMap (bytesF r)).length
    unfold allP begunF
    simp only [List.cons_append, List.flatMap_cons, List.length_append]
    show 5 ≤ (nb 1 _).length + ((nb 4 _).length + _)
    rw [nb_len, nb_len]; omega
  have fN : ∀ (r : Rq) (w k : Nat), (¬ r.n k < 0 ∧ ¬ (256 : Int) ^ w ≤ r.n k) → fit r (.num w k) = 0 := fun r w k h => if_neg (fun h' => h'.elim h.1 h.2)
  have fT : ∀ (r : Rq) (k : Nat), (r.t k).length ≤ 200 → fit r (.text k) = 0 := fun r k h => if_neg (by omega)
  have fD : ∀ (r : Rq), r.data.length ≤ 100 → fit r .data = 0 := fun r h => if_neg (by omega)
  have bN : ∀ (r : Rq) (w k : Nat), (bytesF r (.num w k)).length = w := fun r w k => nb_len _ _
  have bT : ∀ (r : Rq) (k : Nat), (bytesF r (.text k)).length = 2 + (r.t k).length := fun r k => by show (nb 2 _ ++ _).length = _; rw [List.length_append, nb_len]
  have bD : ∀ (r : Rq), (bytesF r .data).length = 2 + r.data.length := fun r => by show (nb 2 _ ++ _).length = _; rw [List.length_append, nb_len]
  have n0 : ∀ k : Int, 1 ≤ k ∧ k ≤ 10 → ¬ k < 0 ∧ ¬ (256 : Int) ^ 1 ≤ k := fun k h => by rw [show (256 : Int) ^ 1 = 256 from by decide]; omega
  unfold reqF
  simp only
  have close : ∀ r : Rq, r.mark = mark % 4294967296 → partsF r.kind ≠ [] → bareF r = true → (1 ≤ r.kind ∧ r.kind ≤ 10) → (∀ p ∈ partsF r.kind, fit r p = 0) → ((partsF r.kind).flatMap (bytesF r)).length ≤ 1000 → (askF r).2 = 0 ∧ 5 ≤ (askF r).1.length ∧ (askF r).1.length ≤ 1024 := by
    intro r e1 h1 h2 h3 h4 h5
    refine key r h1 h2 (fun p hp => ?_) ?_
    · rcases List.mem_append.1 hp with hp | hp
      · have hp' : p = .num 1 0 ∨ p = .num 4 1 := by simpa [begunF] using hp
        rcases hp' with rfl | rfl
        · exact fN _ _ _ (n0 _ h3)
        · refine fN _ _ _ ?_
          show ¬ r.mark < 0 ∧ ¬ (256 : Int) ^ 4 ≤ r.mark
          rw [e1]; exact hm
      · exact h4 p hp
    · unfold allP begunF
      simp only [List.cons_append, List.nil_append, List.flatMap_cons, List.length_append, bN]
      omega
  have l1 : ∀ (r : Rq) (p : Pt), fit r p = 0 → ∀ q ∈ [p], fit r q = 0 := fun r p h q hq => by rw [List.mem_singleton.1 hq]; exact h
  have l2 : ∀ (r : Rq) (p p' : Pt), fit r p = 0 → fit r p' = 0 → ∀ q ∈ [p, p'], fit r q = 0 := fun r p p' h h' q hq => by
    rcases List.mem_cons.1 hq with rfl | hq
    · exact h
    · exact l1 r p' h' q hq
  have l3 : ∀ (r : Rq) (p p' p'' : Pt), fit r p = 0 → fit r p' = 0 → fit r p'' = 0 → ∀ q ∈ [p, p', p''], fit r q = 0 := fun r p p' p'' h h' h'' q hq => by
    rcases List.mem_cons.1 hq with rfl | hq
    · exact h
    · exact l2 r p' p'' h' h'' q hq
  have s1 : ∀ (r : Rq) (p : Pt) (n : Nat), (bytesF r p).length = n → n ≤ 1000 → ([p].flatMap (bytesF r)).length ≤ 1000 := fun r p n h h' => by simp only [List.flatMap_cons, List.flatMap_nil, List.length_append, List.length_nil]; omega
  rcases hk with h | h | h | h | h | h | h | h | h | h <;> rw [h]
  · refine close _ rfl (by simp [partsF]) (by rfl) (by constructor <;> simp) (l2 _ (.text 2) (.num 1 4) (fT _ _ (Nat.le_trans pa (by decide))) (fN _ 1 4 (n1 b 32 (by decide)))) ?_
    show ([Pt.text 2, Pt.num 1 4].flatMap _).length ≤ 1000
    simp only [List.flatMap_cons, List.flatMap_nil, List.length_append, List.length_nil, bN, bT, bD]
    show ((2 + (pathF a).length) + (1 + 0)) ≤ 1000
    omega
  · refine close _ rfl (by simp [partsF]) (by rfl) (by constructor <;> simp) (l1 _ (.num 4 5) (fN _ 4 5 (n4 a 30 (by decide)))) ?_
    show ([Pt.num 4 5].flatMap _).length ≤ 1000
    simp only [List.flatMap_cons, List.flatMap_nil, List.length_append, List.length_nil, bN, bT, bD]
    show (4 + 0) ≤ 1000
    omega
  · refine close _ rfl (by simp [partsF]) (by rfl) (by constructor <;> simp) (l3 _ (.num 4 5) (.num 4 6) (.num 2 7) (fN _ 4 5 (n4 a 30 (by decide))) (fN _ 4 6 (n4 b 300 (by decide))) (fN _ 2 7 (n2 (b.tdiv 300) 102 (by decide)))) ?_
    show ([Pt.num 4 5, Pt.num 4 6, Pt.num 2 7].flatMap _).length ≤ 1000
    simp only [List.flatMap_cons, List.flatMap_nil, List.length_append, List.length_nil, bN, bT, bD]
    show (4 + (4 + (2 + 0))) ≤ 1000
    omega
  · refine close _ rfl (by simp [partsF]) (by rfl) (by constructor <;> simp) (l3 _ (.num 4 5) (.num 4 6) (.data) (fN _ 4 5 (n4 a 30 (by decide))) (fN _ 4 6 (n4 b 300 (by decide))) (fD _ hd)) ?_
    show ([Pt.num 4 5, Pt.num 4 6, Pt.data].flatMap _).length ≤ 1000
    simp only [List.flatMap_cons, List.flatMap_nil, List.length_append, List.length_nil, bN, bT, bD]
    show (4 + (4 + ((2 + (data.take 100).length) + 0))) ≤ 1000
    omega
  · refine close _ rfl (by simp [partsF]) (by rfl) (by constructor <;> simp) (l1 _ (.text 2) (fT _ _ (Nat.le_trans pa (by decide)))) ?_
    show ([Pt.text 2].flatMap _).length ≤ 1000
    simp only [List.flatMap_cons, List.flatMap_nil, List.length_append, List.length_nil, bN, bT, bD]
    show ((2 + (pathF a).length) + 0) ≤ 1000
    omega
  · refine close _ rfl (by simp [partsF]) (by rfl) (by constructor <;> simp) (l1 _ (.text 2) (fT _ _ (Nat.le_trans pa (by decide)))) ?_
    show ([Pt.text 2].flatMap _).length ≤ 1000
    simp only [List.flatMap_cons, List.flatMap_nil, List.length_append, List.length_nil, bN, bT, bD]
    show ((2 + (pathF a).length) + 0) ≤ 1000
    omega
  · refine close _ rfl (by simp [partsF]) (by rfl) (by constructor <;> simp) (l1 _ (.text 2) (fT _ _ (Nat.le_trans pa (by decide)))) ?_
    show ([Pt.text 2].flatMap _).length ≤ 1000
    simp only [List.flatMap_cons, List.flatMap_nil, List.length_append, List.length_nil, bN, bT, bD]
    show ((2 + (pathF a).length) + 0) ≤ 1000
    omega
  · refine close _ rfl (by simp [partsF]) (by rfl) (by constructor <;> simp) (l1 _ (.text 2) (fT _ _ (Nat.le_trans pa (by decide)))) ?_
    show ([Pt.text 2].flatMap _).length ≤ 1000
    simp only [List.flatMap_cons, List.flatMap_nil, List.length_append, List.length_nil, bN, bT, bD]
    show ((2 + (pathF a).length) + 0) ≤ 1000
    omega
  · refine close _ rfl (by simp [partsF]) (by rfl) (by constructor <;> simp) (l2 _ (.text 2) (.text 3) (fT _ _ (Nat.le_trans pa (by decide))) (fT _ _ (Nat.le_trans pb (by decide)))) ?_
    show ([Pt.text 2, Pt.text 3].flatMap _).length ≤ 1000
    simp only [List.flatMap_cons, List.flatMap_nil, List.length_append, List.length_nil, bN, bT, bD]
    show ((2 + (pathF a).length) + ((2 + (pathF b).length) + 0)) ≤ 1000
    omega
  · refine close _ rfl (by simp [partsF]) (by rfl) (by constructor <;> simp) (l2 _ (.text 2) (.text 3) (fT _ _ (Nat.le_trans pa (by decide))) (fT _ _ (Nat.le_trans pb (by decide)))) ?_
    show ([Pt.text 2, Pt.text 3].flatMap _).length ≤ 1000
    simp only [List.flatMap_cons, List.flatMap_nil, List.length_append, List.length_nil, bN, bT, bD]
    show ((2 + (pathF a).length) + ((2 + (pathF b).length) + 0)) ≤ 1000
    omega
set_option maxHeartbeats 4000000 in
/-- the request made of raw numbers -/
theorem requestOf_sp (kind mark a b : Int) (hk : -9223372036854775808 ≤ kind ∧ kind ≤ 9223372036854775807) (hm : -9223372036854775808 ≤ mark ∧ mark ≤ 9223372036854775807) (ha : -9223372036854775808 ≤ a ∧ a ≤ 9223372036854775807) (hb : -9223372036854775808 ≤ b ∧ b ≤ 9223372036854775807) (ao : Option Addr) (n c : Nat) (l : List UInt8) (hl : l.length = n) (hn : n ≤ 9223372036854775807) :
    Spec Try.prog 6 [.int .i64 kind, .int .i64 mark, .int .i64 a, .int .i64 b, .slice ao n c] [.sl ao n c 1 (flat eB l)]
      fun v give => ∃ m : Ms, m.r = reqF kind mark a b l ∧ m.r.data.length = m.n ∧ v = .agg (eRq m).toArray ∧ give = [.sl m.ao m.n m.c 1 (flat eB m.r.data)] := by
  have h1 := Int.emod_nonneg kind (show (10 : Int) ≠ 0 by decide)
  have h2 := Int.emod_lt_of_pos kind (show (0 : Int) < 10 by decide)
  obtain ⟨K, hK⟩ : ∃ K, 1 + kind % 10 = K := ⟨_, rfl⟩
  obtain ⟨M, hM⟩ : ∃ M, mark % 4294967296 = M := ⟨_, rfl⟩
  have hkk : 1 ≤ K ∧ K ≤ 10 := by omega
  refine Spec.intro Try.func6 rfl Try.ntmps6 rfl fun w0 rest rs_ hrs_ => ?_
  simp only [List.cons_append, List.nil_append] at hrs_
  subst hrs_
  repeat (first | refine GC.seq ?_ | refine GC.region ?_)
  refine G.alloc rfl (fun q => ?_)
  repeat (first | (apply G.ex (hd := rfl); case h => (first | exact Ex.move rfl)) | refine G.nil ?_ | refine GC.seq ?_ | refine GC.region ?_ | refine GE.then_normal ?_)
  first | refine G.call (caps := []) (picked_sp kind 10 (by decide) (by decide)) rfl rfl rfl rfl (by repeat (first | exact Takes.nil | apply Takes.dup rfl | apply Takes.cons | exact Take1.here | apply Take1.there)) ?_ | refine G.callU (caps := []) (picked_sp kind 10 (by decide) (by decide)) rfl rfl rfl (by repeat (first | exact Takes.nil | apply Takes.dup rfl | apply Takes.cons | exact Take1.here | apply Take1.there)) ?_
  rintro v_ give_ ⟨rfl, rfl⟩ rs_ hrs_
  simp only [List.cons_append, List.nil_append] at hrs_
  subst hrs_
  repeat (first | (apply G.ex (hd := rfl); case h => (first | exact Ex.move rfl | exact Ex.add rfl rfl (by omega))))
  first | refine G.call (caps := []) (picked_sp mark 4294967296 (by decide) (by decide)) rfl rfl rfl rfl (by repeat (first | exact Takes.nil | apply Takes.dup rfl | apply Takes.cons | exact Take1.here | apply Take1.there)) ?_ | refine G.callU (caps := []) (picked_sp mark 4294967296 (by decide) (by decide)) rfl rfl rfl (by repeat (first | exact Takes.nil | apply Takes.dup rfl | apply Takes.cons | exact Take1.here | apply Take1.there)) ?_
  rintro v_ give_ ⟨rfl, rfl⟩ rs_ hrs_
  simp only [List.cons_append, List.nil_append] at hrs_
  subst hrs_
  repeat (first | (apply G.ex (hd := rfl); case h => (first | exact Ex.build rfl rfl)))
  rw [hK, hM]
  refine G.alloc rfl (fun g => ?_)
  repeat (first | refine G.storeBA rfl rfl rfl rfl rfl ?_ | (apply G.ex (hd := rfl); case h => (first | exact Ex.fieldB rfl | exact Ex.loadB rfl rfl | exact Ex.eqI rfl rfl | exact Ex.assign rfl)) | refine G.nil ?_ | refine GC.seq ?_ | refine GC.region ?_ | refine GC.block ?_ | refine GE.then_normal ?_)
  by_cases h1 : K = 1
  · subst h1
    have e : reqF kind mark a b l = { Rq.zero with kind := 1, mark := M, path := pathF a, how := b % 32 } := by unfold reqF; simp only [hK, hM]; rfl
    repeat (first | (apply G.ex (hd := rfl); case h => (first | exact Ex.move rfl)) | refine GC.seq ?_ | refine GC.region ?_ | refine GC.cond_yes rfl (by first | assumption | omega) ?_)
    first | refine G.call (caps := []) (pathBy_sp a ha) rfl rfl rfl rfl (by repeat (first | exact Takes.nil | apply Takes.dup rfl | apply Takes.cons | exact Take1.here | apply Take1.there)) ?_ | refine G.callU (caps := []) (pathBy_sp a ha) rfl rfl rfl (by repeat (first | exact Takes.nil | apply Takes.dup rfl | apply Takes.cons | exact Take1.here | apply Take1.there)) ?_
    rintro v_ give_ ⟨rfl, rfl⟩ rs_ hrs_
    simp only [List.cons_append, List.nil_append] at hrs_
    subst hrs_
    repeat (first | refine G.storeB rfl rfl rfl rfl rfl ?_ | (apply G.ex (hd := rfl); case h => (first | exact Ex.move rfl | exact Ex.fieldB rfl)) | refine G.nil ?_ | refine GC.region ?_ | refine GE.then_normal ?_)
    first | refine G.call (caps := []) (picked_sp b 32 (by decide) (by decide)) rfl rfl rfl rfl (by repeat (first | exact Takes.nil | apply Takes.dup rfl | apply Takes.cons | exact Take1.here | apply Take1.there)) ?_ | refine G.callU (caps := []) (picked_sp b 32 (by decide) (by decide)) rfl rfl rfl (by repeat (first | exact Takes.nil | apply Takes.dup rfl | apply Takes.cons | exact Take1.here | apply Take1.there)) ?_
    rintro v_ give_ ⟨rfl, rfl⟩ rs_ hrs_
    simp only [List.cons_append, List.nil_append] at hrs_
    subst hrs_
    repeat (first | refine G.storeB rfl rfl rfl rfl rfl ?_ | refine G.storeBA rfl rfl rfl rfl rfl ?_ | (apply G.ex (hd := rfl); case h => (first | exact Ex.fieldB rfl | exact Ex.loadBA rfl rfl rfl)) | refine G.nil ?_ | refine GC.seq ?_ | refine GC.region ?_ | refine GC.ret ?_ | refine GE.then_normal ?_ | refine GE.block_normal ?_)
    refine GE.nilsl 1 ?_
    refine GE.ret (by first | exact .inl rfl | exact .inr rfl) (by first | exact res0 Try.results6 | exact res1 Try.results6 rfl | exact res2 Try.results6 rfl rfl | exact resR1 Try.results6 (by first | exact RV.tmp rfl | exact RV.cell rfl (eP_len _) | exact RV.cell rfl rfl | exact RV.cell1 rfl) | exact resR2 Try.results6 (by first | exact RV.tmp rfl | exact RV.cell rfl (eP_len _) | exact RV.cell rfl rfl | exact RV.cell1 rfl) (by first | exact RV.tmp rfl | exact RV.cell rfl (eP_len _) | exact RV.cell rfl rfl | exact RV.cell1 rfl) | exact resR3 Try.results6 (by first | exact RV.tmp rfl | exact RV.cell rfl (eP_len _) | exact RV.cell rfl rfl | exact RV.cell1 rfl) (by first | exact RV.tmp rfl | exact RV.cell rfl (eP_len _) | exact RV.cell rfl rfl | exact RV.cell1 rfl) (by first | exact RV.tmp rfl | exact RV.cell rfl (eP_len _) | exact RV.cell rfl rfl | exact RV.cell1 rfl)) ⟨⟨{ Rq.zero with kind := 1, mark := M, path := pathF a, how := b % 32 }, none, 0, 0⟩, e.symm, rfl, rfl, rfl⟩ (by repeat (first | exact Takes.nil | apply Takes.dup rfl | apply Takes.cons | exact Take1.here | apply Take1.there)) (by repeat (first | exact Subs.refl | refine Subs.skip ?_))
  · by_cases h2 : K = 2
    · subst h2
      have e : reqF kind mark a b l = { Rq.zero with kind := 2, mark := M, handle := a % 30 } := by unfold reqF; simp only [hK, hM]; rfl
      repeat (first | (apply G.ex (hd := rfl); case h => (first | exact Ex.move rfl | exact Ex.eqI rfl rfl | exact Ex.assign rfl)) | refine G.nil ?_ | refine GC.seq ?_ | refine GC.region ?_ | refine GE.then_normal ?_ | refine GC.cond_yes rfl (by first | assumption | omega) ?_ | refine GC.cond_no rfl (by first | assumption | omega) ?_)
      first | refine G.call (caps := []) (picked_sp a 30 (by decide) (by decide)) rfl rfl rfl rfl (by repeat (first | exact Takes.nil | apply Takes.dup rfl | apply Takes.cons | exact Take1.here | apply Take1.there)) ?_ | refine G.callU (caps := []) (picked_sp a 30 (by decide) (by decide)) rfl rfl rfl (by repeat (first | exact Takes.nil | apply Takes.dup rfl | apply Takes.cons | exact Take1.here | apply Take1.there)) ?_
      rintro v_ give_ ⟨rfl, rfl⟩ rs_ hrs_
      simp only [List.cons_append, List.nil_append] at hrs_
      subst hrs_
      repeat (first | refine G.storeB rfl rfl rfl rfl rfl ?_ | refine G.storeBA rfl rfl rfl rfl rfl ?_ | (apply G.ex (hd := rfl); case h => (first | exact Ex.fieldB rfl | exact Ex.loadBA rfl rfl rfl)) | refine G.nil ?_ | refine GC.seq ?_ | refine GC.region ?_ | refine GC.ret ?_ | refine GE.then_normal ?_ | refine GE.block_normal ?_)
      refine GE.nilsl 1 ?_
      refine GE.ret (by first | exact .inl rfl | exact .inr rfl) (by first | exact res0 Try.results6 | exact res1 Try.results6 rfl | exact res2 Try.results6 rfl rfl | exact resR1 Try.results6 (by first | exact RV.tmp rfl | exact RV.cell rfl (eP_len _) | exact RV.cell rfl rfl | exact RV.cell1 rfl) | exact resR2 Try.results6 (by first | exact RV.tmp rfl | exact RV.cell rfl (eP_len _) | exact RV.cell rfl rfl | exact RV.cell1 rfl) (by first | exact RV.tmp rfl | exact RV.cell rfl (eP_len _) | exact RV.cell rfl rfl | exact RV.cell1 rfl) | exact resR3 Try.results6 (by first | exact RV.tmp rfl | exact RV.cell rfl (eP_len _) | exact RV.cell rfl rfl | exact RV.cell1 rfl) (by first | exact RV.tmp rfl | exact RV.cell rfl (eP_len _) | exact RV.cell rfl rfl | exact RV.cell1 rfl) (by first | exact RV.tmp rfl | exact RV.cell rfl (eP_len _) | exact RV.cell rfl rfl | exact RV.cell1 rfl)) ⟨⟨{ Rq.zero with kind := 2, mark := M, handle := a % 30 }, none, 0, 0⟩, e.symm, rfl, rfl, rfl⟩ (by repeat (first | exact Takes.nil | apply Takes.dup rfl | apply Takes.cons | exact Take1.here | apply Take1.there)) (by repeat (first | exact Subs.refl | refine Subs.skip ?_))
    · by_cases h3 : K = 3
      · subst h3
        have e : reqF kind mark a b l = { Rq.zero with kind := 3, mark := M, handle := a % 30, at_ := b % 300, count := b.tdiv 300 % 102 } := by unfold reqF; simp only [hK, hM]; rfl
        repeat (first | (apply G.ex (hd := rfl); case h => (first | exact Ex.move rfl | exact Ex.eqI rfl rfl | exact Ex.assign rfl)) | refine G.nil ?_ | refine GC.seq ?_ | refine GC.region ?_ | refine GE.then_normal ?_ | refine GC.cond_yes rfl (by first | assumption | omega) ?_ | refine GC.cond_no rfl (by first | assumption | omega) ?_)
        first | refine G.call (caps := []) (picked_sp a 30 (by decide) (by decide)) rfl rfl rfl rfl (by repeat (first | exact Takes.nil | apply Takes.dup rfl | apply Takes.cons | exact Take1.here | apply Take1.there)) ?_ | refine G.callU (caps := []) (picked_sp a 30 (by decide) (by decide)) rfl rfl rfl (by repeat (first | exact Takes.nil | apply Takes.dup rfl | apply Takes.cons | exact Take1.here | apply Take1.there)) ?_
        rintro v_ give_ ⟨rfl, rfl⟩ rs_ hrs_
        simp only [List.cons_append, List.nil_append] at hrs_
        subst hrs_
        repeat (first | refine G.storeB rfl rfl rfl rfl rfl ?_ | (apply G.ex (hd := rfl); case h => (first | exact Ex.move rfl | exact Ex.fieldB rfl)) | refine G.nil ?_ | refine GC.seq ?_ | refine GC.region ?_ | refine GE.then_normal ?_)
        first | refine G.call (caps := []) (picked_sp b 300 (by decide) (by decide)) rfl rfl rfl rfl (by repeat (first | exact Takes.nil | apply Takes.dup rfl | apply Takes.cons | exact Take1.here | apply Take1.there)) ?_ | refine G.callU (caps := []) (picked_sp b 300 (by decide) (by decide)) rfl rfl rfl (by repeat (first | exact Takes.nil | apply Takes.dup rfl | apply Takes.cons | exact Take1.here | apply Take1.there)) ?_
        rintro v_ give_ ⟨rfl, rfl⟩ rs_ hrs_
        simp only [List.cons_append, List.nil_append] at hrs_
        subst hrs_
        repeat (first | refine G.storeB rfl rfl rfl rfl rfl ?_ | (apply G.ex (hd := rfl); case h => (first | exact Ex.move rfl | exact Ex.fieldB rfl | exact Ex.quotB rfl rfl (by omega))) | refine G.nil ?_ | refine GC.region ?_ | refine GE.then_normal ?_)
        first | refine G.call (caps := []) (picked_sp (b.tdiv 300) 102 (by decide) (by decide)) rfl rfl rfl rfl (by repeat (first | exact Takes.nil | apply Takes.dup rfl | apply Takes.cons | exact Take1.here | apply Take1.there)) ?_ | refine G.callU (caps := []) (picked_sp (b.tdiv 300) 102 (by decide) (by decide)) rfl rfl rfl (by repeat (first | exact Takes.nil | apply Takes.dup rfl | apply Takes.cons | exact Take1.here | apply Take1.there)) ?_
        rintro v_ give_ ⟨rfl, rfl⟩ rs_ hrs_
        simp only [List.cons_append, List.nil_append] at hrs_
        subst hrs_
        repeat (first | refine G.storeB rfl rfl rfl rfl rfl ?_ | refine G.storeBA rfl rfl rfl rfl rfl ?_ | (apply G.ex (hd := rfl); case h => (first | exact Ex.fieldB rfl | exact Ex.loadBA rfl rfl rfl)) | refine G.nil ?_ | refine GC.seq ?_ | refine GC.region ?_ | refine GC.ret ?_ | refine GE.then_normal ?_ | refine GE.block_normal ?_)
        refine GE.nilsl 1 ?_
        refine GE.ret (by first | exact .inl rfl | exact .inr rfl) (by first | exact res0 Try.results6 | exact res1 Try.results6 rfl | exact res2 Try.results6 rfl rfl | exact resR1 Try.results6 (by first | exact RV.tmp rfl | exact RV.cell rfl (eP_len _) | exact RV.cell rfl rfl | exact RV.cell1 rfl) | exact resR2 Try.results6 (by first | exact RV.tmp rfl | exact RV.cell rfl (eP_len _) | exact RV.cell rfl rfl | exact RV.cell1 rfl) (by first | exact RV.tmp rfl | exact RV.cell rfl (eP_len _) | exact RV.cell rfl rfl | exact RV.cell1 rfl) | exact resR3 Try.results6 (by first | exact RV.tmp rfl | exact RV.cell rfl (eP_len _) | exact RV.cell rfl rfl | exact RV.cell1 rfl) (by first | exact RV.tmp rfl | exact RV.cell rfl (eP_len _) | exact RV.cell rfl rfl | exact RV.cell1 rfl) (by first | exact RV.tmp rfl | exact RV.cell rfl (eP_len _) | exact RV.cell rfl rfl | exact RV.cell1 rfl)) ⟨⟨{ Rq.zero with kind := 3, mark := M, handle := a % 30, at_ := b % 300, count := b.tdiv 300 % 102 }, none, 0, 0⟩, e.symm, rfl, rfl, rfl⟩ (by repeat (first | exact Takes.nil | apply Takes.dup rfl | apply Takes.cons | exact Take1.here | apply Take1.there)) (by repeat (first | exact Subs.refl | refine Subs.skip ?_))
      · by_cases h4 : K = 4
        · subst h4
          have e : reqF kind mark a b l = { Rq.zero with kind := 4, mark := M, handle := a % 30, at_ := b % 300, data := l.take 100 } := by unfold reqF; simp only [hK, hM]; rfl
          repeat (first | (apply G.ex (hd := rfl); case h => (first | exact Ex.move rfl | exact Ex.eqI rfl rfl | exact Ex.assign rfl)) | refine G.nil ?_ | refine GC.seq ?_ | refine GC.region ?_ | refine GE.then_normal ?_ | refine GC.cond_yes rfl (by first | assumption | omega) ?_ | refine GC.cond_no rfl (by first | assumption | omega) ?_)
          first | refine G.call (caps := []) (picked_sp a 30 (by decide) (by decide)) rfl rfl rfl rfl (by repeat (first | exact Takes.nil | apply Takes.dup rfl | apply Takes.cons | exact Take1.here | apply Take1.there)) ?_ | refine G.callU (caps := []) (picked_sp a 30 (by decide) (by decide)) rfl rfl rfl (by repeat (first | exact Takes.nil | apply Takes.dup rfl | apply Takes.cons | exact Take1.here | apply Take1.there)) ?_
          rintro v_ give_ ⟨rfl, rfl⟩ rs_ hrs_
          simp only [List.cons_append, List.nil_append] at hrs_
          subst hrs_
          repeat (first | refine G.storeB rfl rfl rfl rfl rfl ?_ | (apply G.ex (hd := rfl); case h => (first | exact Ex.move rfl | exact Ex.fieldB rfl)) | refine G.nil ?_ | refine GC.seq ?_ | refine GC.region ?_ | refine GE.then_normal ?_)
          first | refine G.call (caps := []) (picked_sp b 300 (by decide) (by decide)) rfl rfl rfl rfl (by repeat (first | exact Takes.nil | apply Takes.dup rfl | apply Takes.cons | exact Take1.here | apply Take1.there)) ?_ | refine G.callU (caps := []) (picked_sp b 300 (by decide) (by decide)) rfl rfl rfl (by repeat (first | exact Takes.nil | apply Takes.dup rfl | apply Takes.cons | exact Take1.here | apply Take1.there)) ?_
          rintro v_ give_ ⟨rfl, rfl⟩ rs_ hrs_
          simp only [List.cons_append, List.nil_append] at hrs_
          subst hrs_
          repeat (first | refine G.storeB rfl rfl rfl rfl rfl ?_ | (apply G.ex (hd := rfl); case h => (first | exact Ex.move rfl | exact Ex.fieldB rfl)) | refine G.nil ?_ | refine GC.region ?_ | refine GE.then_normal ?_)
          first | refine G.call (caps := []) (octets_sp ao n c l hl hn 100 (by decide)) rfl rfl rfl rfl (by repeat (first | exact Takes.nil | apply Takes.dup rfl | apply Takes.cons | exact Take1.here | apply Take1.there)) ?_ | refine G.callU (caps := []) (octets_sp ao n c l hl hn 100 (by decide)) rfl rfl rfl (by repeat (first | exact Takes.nil | apply Takes.dup rfl | apply Takes.cons | exact Take1.here | apply Take1.there)) ?_
          rintro v_ give_ ⟨da, dc, rfl, rfl⟩ rs_ hrs_
          simp only [List.cons_append, List.nil_append] at hrs_
          subst hrs_
          first | refine G.frz da ?_ | refine GC.frz da ?_ | refine GE.frz da ?_
          repeat (first | refine G.storeB rfl rfl rfl rfl rfl ?_ | refine G.storeBA rfl rfl rfl rfl rfl ?_ | (apply G.ex (hd := rfl); case h => (first | exact Ex.fieldB rfl | exact Ex.loadBA rfl rfl rfl)) | refine G.nil ?_ | refine GC.seq ?_ | refine GC.region ?_ | refine GC.ret ?_ | refine GE.then_normal ?_ | refine GE.block_normal ?_)
          refine GE.ret (by first | exact .inl rfl | exact .inr rfl) (by first | exact res0 Try.results6 | exact res1 Try.results6 rfl | exact res2 Try.results6 rfl rfl | exact resR1 Try.results6 (by first | exact RV.tmp rfl | exact RV.cell rfl (eP_len _) | exact RV.cell rfl rfl | exact RV.cell1 rfl) | exact resR2 Try.results6 (by first | exact RV.tmp rfl | exact RV.cell rfl (eP_len _) | exact RV.cell rfl rfl | exact RV.cell1 rfl) (by first | exact RV.tmp rfl | exact RV.cell rfl (eP_len _) | exact RV.cell rfl rfl | exact RV.cell1 rfl) | exact resR3 Try.results6 (by first | exact RV.tmp rfl | exact RV.cell rfl (eP_len _) | exact RV.cell rfl rfl | exact RV.cell1 rfl) (by first | exact RV.tmp rfl | exact RV.cell rfl (eP_len _) | exact RV.cell rfl rfl | exact RV.cell1 rfl) (by first | exact RV.tmp rfl | exact RV.cell rfl (eP_len _) | exact RV.cell rfl rfl | exact RV.cell1 rfl)) ⟨⟨{ Rq.zero with kind := 4, mark := M, handle := a % 30, at_ := b % 300, data := l.take 100 }, da, min n 100, dc⟩, e.symm, (by show (l.take 100).length = min n 100; rw [List.length_take, hl]; omega), rfl, rfl⟩ (by repeat (first | exact Takes.nil | apply Takes.dup rfl | apply Takes.cons | exact Take1.here | apply Take1.there)) (by repeat (first | exact Subs.refl | refine Subs.skip ?_))
        · by_cases h5 : K = 5
          · subst h5
            have e : reqF kind mark a b l = { Rq.zero with kind := 5, mark := M, path := pathF a } := by unfold reqF; simp only [hK, hM]; rfl
            repeat (first | (apply G.ex (hd := rfl); case h => (first | exact Ex.move rfl | exact Ex.eqI rfl rfl | exact Ex.assign rfl)) | refine G.nil ?_ | refine GC.seq ?_ | refine GC.region ?_ | refine GE.then_normal ?_ | refine GC.cond_no rfl (by first | assumption | omega) ?_)
            first | refine G.call (caps := []) (pathBy_sp a ha) rfl rfl rfl rfl (by repeat (first | exact Takes.nil | apply Takes.dup rfl | apply Takes.cons | exact Take1.here | apply Take1.there)) ?_ | refine G.callU (caps := []) (pathBy_sp a ha) rfl rfl rfl (by repeat (first | exact Takes.nil | apply Takes.dup rfl | apply Takes.cons | exact Take1.here | apply Take1.there)) ?_
            rintro v_ give_ ⟨rfl, rfl⟩ rs_ hrs_
            simp only [List.cons_append, List.nil_append] at hrs_
            subst hrs_
            repeat (first | refine G.storeB rfl rfl rfl rfl rfl ?_ | refine G.storeBA rfl rfl rfl rfl rfl ?_ | (apply G.ex (hd := rfl); case h => (first | exact Ex.fieldB rfl | exact Ex.loadBA rfl rfl rfl)) | refine G.nil ?_ | refine GC.seq ?_ | refine GC.region ?_ | refine GC.ret ?_ | refine GE.then_normal ?_ | refine GE.block_normal ?_)
            refine GE.nilsl 1 ?_
            refine GE.ret (by first | exact .inl rfl | exact .inr rfl) (by first | exact res0 Try.results6 | exact res1 Try.results6 rfl | exact res2 Try.results6 rfl rfl | exact resR1 Try.results6 (by first | exact RV.tmp rfl | exact RV.cell rfl (eP_len _) | exact RV.cell rfl rfl | exact RV.cell1 rfl) | exact resR2 Try.results6 (by first | exact RV.tmp rfl | exact RV.cell rfl (eP_len _) | exact RV.cell rfl rfl | exact RV.cell1 rfl) (by first | exact RV.tmp rfl | exact RV.cell rfl (eP_len _) | exact RV.cell rfl rfl | exact RV.cell1 rfl) | exact resR3 Try.results6 (by first | exact RV.tmp rfl | exact RV.cell rfl (eP_len _) | exact RV.cell rfl rfl | exact RV.cell1 rfl) (by first | exact RV.tmp rfl | exact RV.cell rfl (eP_len _) | exact RV.cell rfl rfl | exact RV.cell1 rfl) (by first | exact RV.tmp rfl | exact RV.cell rfl (eP_len _) | exact RV.cell rfl rfl | exact RV.cell1 rfl)) ⟨⟨{ Rq.zero with kind := 5, mark := M, path := pathF a }, none, 0, 0⟩, e.symm, rfl, rfl, rfl⟩ (by repeat (first | exact Takes.nil | apply Takes.dup rfl | apply Takes.cons | exact Take1.here | apply Take1.there)) (by repeat (first | exact Subs.refl | refine Subs.skip ?_))
          · by_cases h6 : K = 6
            · subst h6
              have e : reqF kind mark a b l = { Rq.zero with kind := 6, mark := M, path := pathF a } := by unfold reqF; simp only [hK, hM]; rfl
              repeat (first | (apply G.ex (hd := rfl); case h => (first | exact Ex.move rfl | exact Ex.eqI rfl rfl | exact Ex.assign rfl)) | refine G.nil ?_ | refine GC.seq ?_ | refine GC.region ?_ | refine GE.then_normal ?_ | refine GC.cond_no rfl (by first | assumption | omega) ?_)
              first | refine G.call (caps := []) (pathBy_sp a ha) rfl rfl rfl rfl (by repeat (first | exact Takes.nil | apply Takes.dup rfl | apply Takes.cons | exact Take1.here | apply Take1.there)) ?_ | refine G.callU (caps := []) (pathBy_sp a ha) rfl rfl rfl (by repeat (first | exact Takes.nil | apply Takes.dup rfl | apply Takes.cons | exact Take1.here | apply Take1.there)) ?_
              rintro v_ give_ ⟨rfl, rfl⟩ rs_ hrs_
              simp only [List.cons_append, List.nil_append] at hrs_
              subst hrs_
              repeat (first | refine G.storeB rfl rfl rfl rfl rfl ?_ | refine G.storeBA rfl rfl rfl rfl rfl ?_ | (apply G.ex (hd := rfl); case h => (first | exact Ex.fieldB rfl | exact Ex.loadBA rfl rfl rfl)) | refine G.nil ?_ | refine GC.seq ?_ | refine GC.region ?_ | refine GC.ret ?_ | refine GE.then_normal ?_ | refine GE.block_normal ?_)
              refine GE.nilsl 1 ?_
              refine GE.ret (by first | exact .inl rfl | exact .inr rfl) (by first | exact res0 Try.results6 | exact res1 Try.results6 rfl | exact res2 Try.results6 rfl rfl | exact resR1 Try.results6 (by first | exact RV.tmp rfl | exact RV.cell rfl (eP_len _) | exact RV.cell rfl rfl | exact RV.cell1 rfl) | exact resR2 Try.results6 (by first | exact RV.tmp rfl | exact RV.cell rfl (eP_len _) | exact RV.cell rfl rfl | exact RV.cell1 rfl) (by first | exact RV.tmp rfl | exact RV.cell rfl (eP_len _) | exact RV.cell rfl rfl | exact RV.cell1 rfl) | exact resR3 Try.results6 (by first | exact RV.tmp rfl | exact RV.cell rfl (eP_len _) | exact RV.cell rfl rfl | exact RV.cell1 rfl) (by first | exact RV.tmp rfl | exact RV.cell rfl (eP_len _) | exact RV.cell rfl rfl | exact RV.cell1 rfl) (by first | exact RV.tmp rfl | exact RV.cell rfl (eP_len _) | exact RV.cell rfl rfl | exact RV.cell1 rfl)) ⟨⟨{ Rq.zero with kind := 6, mark := M, path := pathF a }, none, 0, 0⟩, e.symm, rfl, rfl, rfl⟩ (by repeat (first | exact Takes.nil | apply Takes.dup rfl | apply Takes.cons | exact Take1.here | apply Take1.there)) (by repeat (first | exact Subs.refl | refine Subs.skip ?_))
            · by_cases h7 : K = 7
              · subst h7
                have e : reqF kind mark a b l = { Rq.zero with kind := 7, mark := M, path := pathF a } := by unfold reqF; simp only [hK, hM]; rfl
                repeat (first | (apply G.ex (hd := rfl); case h => (first | exact Ex.move rfl | exact Ex.eqI rfl rfl | exact Ex.assign rfl)) | refine G.nil ?_ | refine GC.seq ?_ | refine GC.region ?_ | refine GE.then_normal ?_ | refine GC.cond_no rfl (by first | assumption | omega) ?_)
                first | refine G.call (caps := []) (pathBy_sp a ha) rfl rfl rfl rfl (by repeat (first | exact Takes.nil | apply Takes.dup rfl | apply Takes.cons | exact Take1.here | apply Take1.there)) ?_ | refine G.callU (caps := []) (pathBy_sp a ha) rfl rfl rfl (by repeat (first | exact Takes.nil | apply Takes.dup rfl | apply Takes.cons | exact Take1.here | apply Take1.there)) ?_
                rintro v_ give_ ⟨rfl, rfl⟩ rs_ hrs_
                simp only [List.cons_append, List.nil_append] at hrs_
                subst hrs_
                repeat (first | refine G.storeB rfl rfl rfl rfl rfl ?_ | refine G.storeBA rfl rfl rfl rfl rfl ?_ | (apply G.ex (hd := rfl); case h => (first | exact Ex.fieldB rfl | exact Ex.loadBA rfl rfl rfl)) | refine G.nil ?_ | refine GC.seq ?_ | refine GC.region ?_ | refine GC.ret ?_ | refine GE.then_normal ?_ | refine GE.block_normal ?_)
                refine GE.nilsl 1 ?_
                refine GE.ret (by first | exact .inl rfl | exact .inr rfl) (by first | exact res0 Try.results6 | exact res1 Try.results6 rfl | exact res2 Try.results6 rfl rfl | exact resR1 Try.results6 (by first | exact RV.tmp rfl | exact RV.cell rfl (eP_len _) | exact RV.cell rfl rfl | exact RV.cell1 rfl) | exact resR2 Try.results6 (by first | exact RV.tmp rfl | exact RV.cell rfl (eP_len _) | exact RV.cell rfl rfl | exact RV.cell1 rfl) (by first | exact RV.tmp rfl | exact RV.cell rfl (eP_len _) | exact RV.cell rfl rfl | exact RV.cell1 rfl) | exact resR3 Try.results6 (by first | exact RV.tmp rfl | exact RV.cell rfl (eP_len _) | exact RV.cell rfl rfl | exact RV.cell1 rfl) (by first | exact RV.tmp rfl | exact RV.cell rfl (eP_len _) | exact RV.cell rfl rfl | exact RV.cell1 rfl) (by first | exact RV.tmp rfl | exact RV.cell rfl (eP_len _) | exact RV.cell rfl rfl | exact RV.cell1 rfl)) ⟨⟨{ Rq.zero with kind := 7, mark := M, path := pathF a }, none, 0, 0⟩, e.symm, rfl, rfl, rfl⟩ (by repeat (first | exact Takes.nil | apply Takes.dup rfl | apply Takes.cons | exact Take1.here | apply Take1.there)) (by repeat (first | exact Subs.refl | refine Subs.skip ?_))
              · by_cases h8 : K = 8
                · subst h8
                  have e : reqF kind mark a b l = { Rq.zero with kind := 8, mark := M, path := pathF a } := by unfold reqF; simp only [hK, hM]; rfl
                  repeat (first | (apply G.ex (hd := rfl); case h => (first | exact Ex.move rfl | exact Ex.eqI rfl rfl | exact Ex.assign rfl)) | refine G.nil ?_ | refine GC.seq ?_ | refine GC.region ?_ | refine GE.then_normal ?_ | refine GC.cond_no rfl (by first | assumption | omega) ?_)
                  first | refine G.call (caps := []) (pathBy_sp a ha) rfl rfl rfl rfl (by repeat (first | exact Takes.nil | apply Takes.dup rfl | apply Takes.cons | exact Take1.here | apply Take1.there)) ?_ | refine G.callU (caps := []) (pathBy_sp a ha) rfl rfl rfl (by repeat (first | exact Takes.nil | apply Takes.dup rfl | apply Takes.cons | exact Take1.here | apply Take1.there)) ?_
                  rintro v_ give_ ⟨rfl, rfl⟩ rs_ hrs_
                  simp only [List.cons_append, List.nil_append] at hrs_
                  subst hrs_
                  repeat (first | refine G.storeB rfl rfl rfl rfl rfl ?_ | refine G.storeBA rfl rfl rfl rfl rfl ?_ | (apply G.ex (hd := rfl); case h => (first | exact Ex.fieldB rfl | exact Ex.loadBA rfl rfl rfl)) | refine G.nil ?_ | refine GC.seq ?_ | refine GC.region ?_ | refine GC.ret ?_ | refine GE.then_normal ?_ | refine GE.block_normal ?_)
                  refine GE.nilsl 1 ?_
                  refine GE.ret (by first | exact .inl rfl | exact .inr rfl) (by first | exact res0 Try.results6 | exact res1 Try.results6 rfl | exact res2 Try.results6 rfl rfl | exact resR1 Try.results6 (by first | exact RV.tmp rfl | exact RV.cell rfl (eP_len _) | exact RV.cell rfl rfl | exact RV.cell1 rfl) | exact resR2 Try.results6 (by first | exact RV.tmp rfl | exact RV.cell rfl (eP_len _) | exact RV.cell rfl rfl | exact RV.cell1 rfl) (by first | exact RV.tmp rfl | exact RV.cell rfl (eP_len _) | exact RV.cell rfl rfl | exact RV.cell1 rfl) | exact resR3 Try.results6 (by first | exact RV.tmp rfl | exact RV.cell rfl (eP_len _) | exact RV.cell rfl rfl | exact RV.cell1 rfl) (by first | exact RV.tmp rfl | exact RV.cell rfl (eP_len _) | exact RV.cell rfl rfl | exact RV.cell1 rfl) (by first | exact RV.tmp rfl | exact RV.cell rfl (eP_len _) | exact RV.cell rfl rfl | exact RV.cell1 rfl)) ⟨⟨{ Rq.zero with kind := 8, mark := M, path := pathF a }, none, 0, 0⟩, e.symm, rfl, rfl, rfl⟩ (by repeat (first | exact Takes.nil | apply Takes.dup rfl | apply Takes.cons | exact Take1.here | apply Take1.there)) (by repeat (first | exact Subs.refl | refine Subs.skip ?_))
                · by_cases h9 : K = 9
                  · subst h9
                    have e : reqF kind mark a b l = { Rq.zero with kind := 9, mark := M, path := pathF a, to_ := pathF b } := by unfold reqF; simp only [hK, hM]; rfl
                    repeat (first | (apply G.ex (hd := rfl); case h => (first | exact Ex.move rfl | exact Ex.eqI rfl rfl | exact Ex.assign rfl)) | refine G.nil ?_ | refine GC.seq ?_ | refine GC.region ?_ | refine GC.skip ?_ | refine GE.then_normal ?_ | refine GC.cond_yes rfl (by first | assumption | omega) ?_ | refine GC.cond_no rfl (by first | assumption | omega) ?_)
                    first | refine G.call (caps := []) (pathBy_sp a ha) rfl rfl rfl rfl (by repeat (first | exact Takes.nil | apply Takes.dup rfl | apply Takes.cons | exact Take1.here | apply Take1.there)) ?_ | refine G.callU (caps := []) (pathBy_sp a ha) rfl rfl rfl (by repeat (first | exact Takes.nil | apply Takes.dup rfl | apply Takes.cons | exact Take1.here | apply Take1.there)) ?_
                    rintro v_ give_ ⟨rfl, rfl⟩ rs_ hrs_
                    simp only [List.cons_append, List.nil_append] at hrs_
                    subst hrs_
                    repeat (first | refine G.storeB rfl rfl rfl rfl rfl ?_ | (apply G.ex (hd := rfl); case h => (first | exact Ex.move rfl | exact Ex.fieldB rfl)) | refine G.nil ?_ | refine GC.region ?_ | refine GE.then_normal ?_)
                    first | refine G.call (caps := []) (pathBy_sp b hb) rfl rfl rfl rfl (by repeat (first | exact Takes.nil | apply Takes.dup rfl | apply Takes.cons | exact Take1.here | apply Take1.there)) ?_ | refine G.callU (caps := []) (pathBy_sp b hb) rfl rfl rfl (by repeat (first | exact Takes.nil | apply Takes.dup rfl | apply Takes.cons | exact Take1.here | apply Take1.there)) ?_
                    rintro v_ give_ ⟨rfl, rfl⟩ rs_ hrs_
                    simp only [List.cons_append, List.nil_append] at hrs_
                    subst hrs_
                    repeat (first | refine G.storeB rfl rfl rfl rfl rfl ?_ | refine G.storeBA rfl rfl rfl rfl rfl ?_ | (apply G.ex (hd := rfl); case h => (first | exact Ex.fieldB rfl | exact Ex.loadBA rfl rfl rfl)) | refine G.nil ?_ | refine GC.seq ?_ | refine GC.region ?_ | refine GC.ret ?_ | refine GE.then_normal ?_ | refine GE.block_normal ?_)
                    refine GE.nilsl 1 ?_
                    refine GE.ret (by first | exact .inl rfl | exact .inr rfl) (by first | exact res0 Try.results6 | exact res1 Try.results6 rfl | exact res2 Try.results6 rfl rfl | exact resR1 Try.results6 (by first | exact RV.tmp rfl | exact RV.cell rfl (eP_len _) | exact RV.cell rfl rfl | exact RV.cell1 rfl) | exact resR2 Try.results6 (by first | exact RV.tmp rfl | exact RV.cell rfl (eP_len _) | exact RV.cell rfl rfl | exact RV.cell1 rfl) (by first | exact RV.tmp rfl | exact RV.cell rfl (eP_len _) | exact RV.cell rfl rfl | exact RV.cell1 rfl) | exact resR3 Try.results6 (by first | exact RV.tmp rfl | exact RV.cell rfl (eP_len _) | exact RV.cell rfl rfl | exact RV.cell1 rfl) (by first | exact RV.tmp rfl | exact RV.cell rfl (eP_len _) | exact RV.cell rfl rfl | exact RV.cell1 rfl) (by first | exact RV.tmp rfl | exact RV.cell rfl (eP_len _) | exact RV.cell rfl rfl | exact RV.cell1 rfl)) ⟨⟨{ Rq.zero with kind := 9, mark := M, path := pathF a, to_ := pathF b }, none, 0, 0⟩, e.symm, rfl, rfl, rfl⟩ (by repeat (first | exact Takes.nil | apply Takes.dup rfl | apply Takes.cons | exact Take1.here | apply Take1.there)) (by repeat (first | exact Subs.refl | refine Subs.skip ?_))
                  · have h10 : K = 10 := by omega
                    subst h10
                    have e : reqF kind mark a b l = { Rq.zero with kind := 10, mark := M, path := pathF a, to_ := pathF b } := by unfold reqF; simp only [hK, hM]; rfl
                    repeat (first | (apply G.ex (hd := rfl); case h => (first | exact Ex.move rfl | exact Ex.eqI rfl rfl | exact Ex.assign rfl)) | refine G.nil ?_ | refine GC.seq ?_ | refine GC.region ?_ | refine GE.then_normal ?_ | refine GC.cond_yes rfl (by first | assumption | omega) ?_ | refine GC.cond_no rfl (by first | assumption | omega) ?_)
                    first | refine G.call (caps := []) (pathBy_sp a ha) rfl rfl rfl rfl (by repeat (first | exact Takes.nil | apply Takes.dup rfl | apply Takes.cons | exact Take1.here | apply Take1.there)) ?_ | refine G.callU (caps := []) (pathBy_sp a ha) rfl rfl rfl (by repeat (first | exact Takes.nil | apply Takes.dup rfl | apply Takes.cons | exact Take1.here | apply Take1.there)) ?_
                    rintro v_ give_ ⟨rfl, rfl⟩ rs_ hrs_
                    simp only [List.cons_append, List.nil_append] at hrs_
                    subst hrs_
                    repeat (first | refine G.storeB rfl rfl rfl rfl rfl ?_ | (apply G.ex (hd := rfl); case h => (first | exact Ex.move rfl | exact Ex.fieldB rfl)) | refine G.nil ?_ | refine GC.region ?_ | refine GE.then_normal ?_)
                    first | refine G.call (caps := []) (pathBy_sp b hb) rfl rfl rfl rfl (by repeat (first | exact Takes.nil | apply Takes.dup rfl | apply Takes.cons | exact Take1.here | apply Take1.there)) ?_ | refine G.callU (caps := []) (pathBy_sp b hb) rfl rfl rfl (by repeat (first | exact Takes.nil | apply Takes.dup rfl | apply Takes.cons | exact Take1.here | apply Take1.there)) ?_
                    rintro v_ give_ ⟨rfl, rfl⟩ rs_ hrs_
                    simp only [List.cons_append, List.nil_append] at hrs_
                    subst hrs_
                    repeat (first | refine G.storeB rfl rfl rfl rfl rfl ?_ | refine G.storeBA rfl rfl rfl rfl rfl ?_ | (apply G.ex (hd := rfl); case h => (first | exact Ex.fieldB rfl | exact Ex.loadBA rfl rfl rfl)) | refine G.nil ?_ | refine GC.seq ?_ | refine GC.region ?_ | refine GC.ret ?_ | refine GE.then_normal ?_ | refine GE.block_normal ?_)
                    refine GE.nilsl 1 ?_
                    refine GE.ret (by first | exact .inl rfl | exact .inr rfl) (by first | exact res0 Try.results6 | exact res1 Try.results6 rfl | exact res2 Try.results6 rfl rfl | exact resR1 Try.results6 (by first | exact RV.tmp rfl | exact RV.cell rfl (eP_len _) | exact RV.cell rfl rfl | exact RV.cell1 rfl) | exact resR2 Try.results6 (by first | exact RV.tmp rfl | exact RV.cell rfl (eP_len _) | exact RV.cell rfl rfl | exact RV.cell1 rfl) (by first | exact RV.tmp rfl | exact RV.cell rfl (eP_len _) | exact RV.cell rfl rfl | exact RV.cell1 rfl) | exact resR3 Try.results6 (by first | exact RV.tmp rfl | exact RV.cell rfl (eP_len _) | exact RV.cell rfl rfl | exact RV.cell1 rfl) (by first | exact RV.tmp rfl | exact RV.cell rfl (eP_len _) | exact RV.cell rfl rfl | exact RV.cell1 rfl) (by first | exact RV.tmp rfl | exact RV.cell rfl (eP_len _) | exact RV.cell rfl rfl | exact RV.cell1 rfl)) ⟨⟨{ Rq.zero with kind := 10, mark := M, path := pathF a, to_ := pathF b }, none, 0, 0⟩, e.symm, rfl, rfl, rfl⟩ (by repeat (first | exact Takes.nil | apply Takes.dup rfl | apply Takes.cons | exact Take1.here | apply Take1.there)) (by repeat (first | exact Subs.refl | refine Subs.skip ?_))
end msg
end Go.Proofs.Ythplilldkdehnaa
