/-
  CONTRACTS of strings.IndexAny and ContainsAny with "/\\x00", and of path.Name, whatever bytes a name has, by the kit.
-/
import Derived.Test.YtjfdpfjngajnlaaDoorName
namespace Go.Proofs.YtjfdpfjngajnlaaDoor
open Go.RowKit
attribute [local irreducible] Ex G GC GE Gq FPost LPost
set_option linter.unusedVariables false
set_option linter.unusedSimpArgs false

namespace path
/-- a set of bytes -/
def eA (f : Nat → Bool) : List Value := (List.range 256).map fun i => .bool (f i)
theorem eA_len (f : Nat → Bool) : (eA f).length = 256 := by simp [eA]
theorem eA_at (f : Nat → Bool) (j : Nat) (h : j < 256) : (eA f)[j]? = some (.bool (f j)) := by
  unfold eA; rw [List.getElem?_map, List.getElem?_range h]; rfl
theorem eA_one (f : Nat → Bool) : ∀ u ∈ eA f, u.oneCell' = true := fun u hu => by
  obtain ⟨i, _, rfl⟩ := List.mem_map.1 hu; rfl
instance : Enc eA 256 := ⟨eA_len, eA_one⟩
theorem eA_set (f : Nat → Bool) (j : Nat) (v : Bool) : (eA f).set j (.bool v) = eA (upd f j v) := by
  apply List.ext_getElem?
  intro i
  rw [List.getElem?_set]
  by_cases h : i < 256
  · rw [eA_at _ i h, eA_at _ i h]
    by_cases e : j = i
    · subst e; rw [if_pos rfl, if_pos (by rw [eA_len]; exact h)]; simp [upd]
    · rw [if_neg e]; simp [upd, Ne.symm e]
  · rw [List.getElem?_eq_none (by rw [eA_len]; omega), List.getElem?_eq_none (by rw [eA_len]; omega)]
    split
    · rename_i e; subst e; rw [if_neg (by rw [eA_len]; omega)]
    · rfl
instance : Inf Tryd.prog 69 256 256 (eA noP) := ⟨by kernel_rfl⟩
def setK : Nat → Nat → Bool
  | 0 => noP
  | 1 => upd noP 47 true
  | _ => upd (upd noP 47 true) 0 true
theorem setK2 (c : Nat) : setK 2 c = decide (c = 47 ∨ c = 0) := by
  simp only [setK, upd, noP]
  by_cases h : c = 0
  · subst h; rfl
  · by_cases h2 : c = 47
    · subst h2; rfl
    · simp [h, h2]
theorem use_sp (k : Int) : Spec Tryd.prog 41 [.int .i64 k] [] fun v give => v = .bool (decide (8 < k)) ∧ give = [] := by
  refine Spec.intro Tryd.func41 rfl Tryd.ntmps41 rfl fun w0 rest rs_ hrs_ => ?_
  simp only [List.cons_append, List.nil_append] at hrs_
  subst hrs_
  repeat (first | (apply G.ex (hd := rfl); case h => (first | exact Ex.move rfl | exact Ex.gtr rfl rfl | exact Ex.assign rfl)) | refine G.nil ?_ | refine GC.seq ?_ | refine GC.region ?_ | refine GC.ret ?_ | refine GE.then_normal ?_)
  refine GE.ret (by first | exact .inl rfl | exact .inr rfl) (by first | exact res0 Tryd.results41 | exact res1 Tryd.results41 rfl | exact res2 Tryd.results41 rfl rfl | exact resR1 Tryd.results41 (by first | exact RV.tmp rfl | exact RV.cell rfl (eP_len _) | exact RV.cell rfl rfl | exact RV.cell1 rfl) | exact resR2 Tryd.results41 (by first | exact RV.tmp rfl | exact RV.cell rfl (eP_len _) | exact RV.cell rfl rfl | exact RV.cell1 rfl) (by first | exact RV.tmp rfl | exact RV.cell rfl (eP_len _) | exact RV.cell rfl rfl | exact RV.cell1 rfl) | exact resR3 Tryd.results41 (by first | exact RV.tmp rfl | exact RV.cell rfl (eP_len _) | exact RV.cell rfl rfl | exact RV.cell1 rfl) (by first | exact RV.tmp rfl | exact RV.cell rfl (eP_len _) | exact RV.cell rfl rfl | exact RV.cell1 rfl) (by first | exact RV.tmp rfl | exact RV.cell rfl (eP_len _) | exact RV.cell rfl rfl | exact RV.cell1 rfl)) ⟨rfl, rfl⟩ (by repeat (first | exact Takes.nil | apply Takes.dup rfl | apply Takes.cons | exact Take1.here | apply Take1.there)) (by repeat (first | exact Subs.refl | refine Subs.skip ?_))
set_option maxRecDepth 100000 in
set_option maxHeartbeats 4000000 in
theorem mk_sp : Spec Tryd.prog 42 [.string (sOf cs2)] [] fun v give => v = .tuple #[.agg (eA (setK 2)).toArray, .bool true] ∧ give = [] := by
  refine Spec.intro Tryd.func42 rfl Tryd.ntmps42 rfl fun w0 rest rs_ hrs_ => ?_
  simp only [List.cons_append, List.nil_append] at hrs_
  subst hrs_
  repeat (first | refine GC.seq ?_ | refine GC.region ?_)
  refine G.alloc rfl (fun b => ?_)
  repeat (first | (apply G.ex (hd := rfl); case h => (first | exact Ex.assign rfl)) | refine G.nil ?_ | refine GC.seq ?_ | refine GC.region ?_ | refine GC.block ?_ | refine GE.then_normal ?_)
  refine GC.loop (ι := Nat) (fun k => k ≤ 2) (fun k => 2 - k) (fun k => [(0, .string (sOf cs2)), (2, .pointer (some (badr b 0))), (4, .int .i64 (k : Int))]) (fun k => [.blk b 69 (eA (setK k))]) 0 (by decide) (by simp only [fits]; repeat (first | exact trivial | refine And.intro rfl ?_)) (by repeat (first | exact Takes.nil | apply Takes.dup rfl | apply Takes.cons | exact Take1.here | apply Take1.there)) ?_
  rintro k hk fr_ rs_ hfr_ hrs_
  simp only [List.cons_append, List.nil_append] at hfr_ hrs_
  subst hfr_ hrs_
  have hk3 : k = 0 ∨ k = 1 ∨ k = 2 := by omega
  rcases hk3 with rfl | rfl | rfl
  · repeat ((fail_if_success (refine GC.region (id := 4) ?_)); first | (apply G.ex (hd := rfl); case h => (first | exact Ex.move rfl | exact Ex.lenO rfl | exact Ex.lss rfl rfl)) | refine G.nil ?_ | refine GC.seq ?_ | refine GC.region ?_ | refine GC.block ?_ | refine GC.skip ?_ | refine GE.then_normal ?_ | refine GC.cond_t rfl ?_)
    refine GC.region ?_
    iterate 2 (first | (apply G.ex (hd := rfl); case h => (first | exact Ex.move rfl)))
    refine G.ex (Ex.indexO (l := cs2) (k := 0) rfl rfl (by decide)) rfl ?_
    rw [show (cs2.getD 0 0).toNat = 47 from rfl]
    repeat ((fail_if_success (refine GC.region (id := 7) ?_)); first | (apply G.ex (hd := rfl); case h => (first | exact Ex.move rfl | exact Ex.geq rfl rfl | exact Ex.assign rfl)) | refine G.nil ?_ | refine GC.seq ?_ | refine GC.region ?_ | refine GC.skip ?_ | refine GE.then_normal ?_ | refine GC.cond_no rfl (by first | assumption | omega) ?_)
    refine GC.region ?_
    first | (apply G.ex (hd := rfl); case h => (first | exact Ex.move rfl))
    refine G.ex (Ex.indexPB (k := 47) (b := b) (j := 0) rfl rfl (by decide)) rfl ?_
    refine G.storeB (b := b) (j := 0 + 47) rfl rfl rfl rfl (by rw [Nat.blt_eq, eA_len]; decide) ?_
    refine G.reblk (eA (setK 1)) (eA_set _ _ _) ?_
    repeat (first | (apply G.ex (hd := rfl); case h => (first | exact Ex.move rfl | exact Ex.add rfl rfl (by omega) | exact Ex.assign rfl)) | refine G.nil ?_ | refine GC.region ?_ | refine GE.then_normal ?_ | refine GE.block_normal ?_)
    refine GE.loop 1 (by decide) (by decide) (by simp only [fits]; repeat (first | exact trivial | refine And.intro rfl ?_)) (by repeat (first | exact Takes.nil | apply Takes.dup rfl | apply Takes.cons | exact Take1.here | apply Take1.there)) (by repeat (first | exact Subs.refl | refine Subs.skip ?_))
  · repeat ((fail_if_success (refine GC.region (id := 4) ?_)); first | (apply G.ex (hd := rfl); case h => (first | exact Ex.move rfl | exact Ex.lenO rfl | exact Ex.lss rfl rfl)) | refine G.nil ?_ | refine GC.seq ?_ | refine GC.region ?_ | refine GC.block ?_ | refine GC.skip ?_ | refine GE.then_normal ?_ | refine GC.cond_t rfl ?_)
    refine GC.region ?_
    iterate 2 (first | (apply G.ex (hd := rfl); case h => (first | exact Ex.move rfl)))
    refine G.ex (Ex.indexO (l := cs2) (k := 1) rfl rfl (by decide)) rfl ?_
    rw [show (cs2.getD 1 0).toNat = 0 from rfl]
    repeat ((fail_if_success (refine GC.region (id := 7) ?_)); first | (apply G.ex (hd := rfl); case h => (first | exact Ex.move rfl | exact Ex.geq rfl rfl | exact Ex.assign rfl)) | refine G.nil ?_ | refine GC.seq ?_ | refine GC.region ?_ | refine GC.skip ?_ | refine GE.then_normal ?_ | refine GC.cond_no rfl (by first | assumption | omega) ?_)
    refine GC.region ?_
    first | (apply G.ex (hd := rfl); case h => (first | exact Ex.move rfl))
    refine G.ex (Ex.indexPB (k := 0) (b := b) (j := 0) rfl rfl (by decide)) rfl ?_
    refine G.storeB (b := b) (j := 0 + 0) rfl rfl rfl rfl (by rw [Nat.blt_eq, eA_len]; decide) ?_
    refine G.reblk (eA (setK 2)) (eA_set _ _ _) ?_
    repeat (first | (apply G.ex (hd := rfl); case h => (first | exact Ex.move rfl | exact Ex.add rfl rfl (by omega) | exact Ex.assign rfl)) | refine G.nil ?_ | refine GC.region ?_ | refine GE.then_normal ?_ | refine GE.block_normal ?_)
    refine GE.loop 2 (by decide) (by decide) (by simp only [fits]; repeat (first | exact trivial | refine And.intro rfl ?_)) (by repeat (first | exact Takes.nil | apply Takes.dup rfl | apply Takes.cons | exact Take1.here | apply Take1.there)) (by repeat (first | exact Subs.refl | refine Subs.skip ?_))
  · have hlt : ¬ ((2 : Nat) : Int) < ((cs2.length : Nat) : Int) := by decide
    repeat ((fail_if_success (refine GC.region (id := 8) ?_)); first | (apply G.ex (hd := rfl); case h => (first | exact Ex.move rfl | exact Ex.lenO rfl | exact Ex.lss rfl rfl)) | refine G.nil ?_ | refine GC.seq ?_ | refine GC.region ?_ | refine GC.exit ?_ | refine GE.then_normal ?_ | refine GE.then_exit ?_ | refine GE.block_hit ?_ | refine GC.cond_no rfl (by first | assumption | omega) ?_)
    refine GC.region ?_
    refine G.ex (Ex.loadWh (enc := eA) (q := setK 2) rfl) rfl ?_
    refine G.storeWh (enc := eA) (q := setK 2) rfl rfl .here (eA_len _) ?_
    repeat (first | (apply G.ex (hd := rfl); case h => (first | exact Ex.assign rfl)) | refine G.nil ?_ | refine GC.ret ?_ | refine GE.then_normal ?_)
    refine GE.ret (.inl rfl) (resR2 Tryd.results42 (RV.cell rfl (eA_len _)) (RV.tmp rfl)) ⟨rfl, rfl⟩ .nil (.skip .refl)
set_option maxRecDepth 100000 in
theorem has_sp (b : Nat) (T : TypeId) (f : Nat → Bool) (c : UInt8) : Spec Tryd.prog 43 [.pointer (some (badr b 0)), .int .u8 (c.toNat : Int)] [.blk b T (eA f)] fun v give => v = .bool (f c.toNat) ∧ give = [.blk b T (eA f)] := by
  have hc := c.toNat_lt
  refine Spec.intro Tryd.func43 rfl Tryd.ntmps43 rfl fun w0 rest rs_ hrs_ => ?_
  simp only [List.cons_append, List.nil_append] at hrs_
  subst hrs_
  repeat (first | (apply G.ex (hd := rfl); case h => (first | exact Ex.move rfl | exact Ex.nilCheck rfl | exact Ex.indexPB rfl rfl (by first | omega | (simp; done) | (simp; omega)) | exact Ex.assign rfl)) | refine G.nil ?_ | refine GC.seq ?_ | refine GC.region ?_ | refine GE.then_normal ?_)
  refine G.ex (Ex.loadB (b := b) (j := 0 + c.toNat) rfl (by rw [Nat.zero_add]; exact eA_at f _ (by omega))) rfl ?_
  repeat (first | (apply G.ex (hd := rfl); case h => (first | exact Ex.assign rfl)) | refine G.nil ?_ | refine GC.ret ?_ | refine GE.then_normal ?_)
  refine GE.ret (by first | exact .inl rfl | exact .inr rfl) (by first | exact res0 Tryd.results43 | exact res1 Tryd.results43 rfl | exact res2 Tryd.results43 rfl rfl | exact resR1 Tryd.results43 (by first | exact RV.tmp rfl | exact RV.cell rfl (eP_len _) | exact RV.cell rfl rfl | exact RV.cell1 rfl) | exact resR2 Tryd.results43 (by first | exact RV.tmp rfl | exact RV.cell rfl (eP_len _) | exact RV.cell rfl rfl | exact RV.cell1 rfl) (by first | exact RV.tmp rfl | exact RV.cell rfl (eP_len _) | exact RV.cell rfl rfl | exact RV.cell1 rfl) | exact resR3 Tryd.results43 (by first | exact RV.tmp rfl | exact RV.cell rfl (eP_len _) | exact RV.cell rfl rfl | exact RV.cell1 rfl) (by first | exact RV.tmp rfl | exact RV.cell rfl (eP_len _) | exact RV.cell rfl rfl | exact RV.cell1 rfl) (by first | exact RV.tmp rfl | exact RV.cell rfl (eP_len _) | exact RV.cell rfl rfl | exact RV.cell1 rfl)) ⟨rfl, rfl⟩ (by repeat (first | exact Takes.nil | apply Takes.dup rfl | apply Takes.cons | exact Take1.here | apply Take1.there)) (by repeat (first | exact Subs.refl | refine Subs.skip ?_))
/-- is one of the two in it? -/
def hit (l : List UInt8) : Prop := ∃ x ∈ l, x.toNat = 47 ∨ x.toNat = 0
theorem hit_drop {l : List UInt8} {i : Nat} (h : i < l.length) (hn : ¬ ((l.getD i 0).toNat = 47 ∨ (l.getD i 0).toNat = 0)) (hd : ¬ hit (l.take i)) : ¬ hit (l.take (i + 1)) := by
  rintro ⟨x, hx, hx2⟩
  rw [List.take_succ_eq_append_getElem h] at hx
  rcases List.mem_append.1 hx with hx | hx
  · exact hd ⟨x, hx, hx2⟩
  · rw [List.mem_singleton] at hx
    rw [List.getD_eq_getElem?_getD, List.getElem?_eq_getElem h] at hn
    exact hn (by rw [hx] at hx2; exact hx2)
theorem hit_at {l : List UInt8} {i : Nat} (h : i < l.length) (hn : (l.getD i 0).toNat = 47 ∨ (l.getD i 0).toNat = 0) : hit l :=
  ⟨l.getD i 0, by rw [List.getD_eq_getElem?_getD, List.getElem?_eq_getElem h]; exact List.getElem_mem h, hn⟩
theorem hit_skip {l : List UInt8} {i : Nat} : ∀ (w : Nat), i + w ≤ l.length → (∀ k, k < w → 128 ≤ (l.getD (i + k) 0).toNat) → ¬ hit (l.take i) → ¬ hit (l.take (i + w))
  | 0, _, _, hd => hd
  | w + 1, h, hw, hd => by
    have h1 := hit_skip w (by omega) (fun k hk => hw k (by omega)) hd
    have h2 := hw w (by omega)
    exact hit_drop (i := i + w) (by omega) (by omega) h1
theorem hit_no {l : List UInt8} {i : Nat} (h : l.length ≤ i) (hd : ¬ hit (l.take i)) : ¬ hit l := by
  rwa [List.take_of_length_le h] at hd
set_option maxRecDepth 100000 in
set_option maxHeartbeats 4000000 in
theorem any_sp (l : List UInt8) (hl : l.length ≤ 1000000) : Spec Tryd.prog 35 [.string (sOf l), .string (sOf cs2)] [] fun v give => ∃ k : Int, v = .int .i64 k ∧ (0 ≤ k ↔ hit l) ∧ give = [] := by
  refine Spec.intro Tryd.func35 rfl Tryd.ntmps35 rfl fun w0 rest rs_ hrs_ => ?_
  simp only [List.cons_append, List.nil_append] at hrs_
  subst hrs_
  by_cases h8 : 8 < l.length
  · have c1 : ¬ cs2 = [] := by decide
    have c2 : ¬ ((cs2.length : Nat) : Int) = 1 := by decide
    have c3 : (8 : Int) < (l.length : Int) := by omega
    repeat (first | (apply G.ex (hd := rfl); case h => (first | exact Ex.move rfl | exact Ex.lenO rfl | exact Ex.eqO rfl rfl | exact Ex.eqI rfl rfl | exact Ex.assign rfl)) | refine G.nil ?_ | refine GC.seq ?_ | refine GC.region ?_ | refine GC.skip ?_ | refine GE.then_normal ?_ | refine GC.cond_no rfl (by first | assumption | omega) ?_)
    first | refine G.call (caps := []) (use_sp (l.length : Int)) rfl rfl rfl rfl (by repeat (first | exact Takes.nil | apply Takes.dup rfl | apply Takes.cons | exact Take1.here | apply Take1.there)) ?_ | refine G.callU (caps := []) (use_sp (l.length : Int)) rfl rfl rfl (by repeat (first | exact Takes.nil | apply Takes.dup rfl | apply Takes.cons | exact Take1.here | apply Take1.there)) ?_
    rintro v_ give_ ⟨rfl, rfl⟩ rs_ hrs_
    simp only [List.cons_append, List.nil_append] at hrs_
    subst hrs_
    repeat (first | (apply G.ex (hd := rfl); case h => (first | exact Ex.move rfl)) | refine G.nil ?_ | refine GC.seq ?_ | refine GC.region ?_ | refine GE.then_normal ?_ | refine GC.cond_yes rfl (by first | assumption | omega) ?_)
    first | refine G.call (caps := []) (mk_sp) rfl rfl rfl rfl (by repeat (first | exact Takes.nil | apply Takes.dup rfl | apply Takes.cons | exact Take1.here | apply Take1.there)) ?_ | refine G.callU (caps := []) (mk_sp) rfl rfl rfl (by repeat (first | exact Takes.nil | apply Takes.dup rfl | apply Takes.cons | exact Take1.here | apply Take1.there)) ?_
    rintro v_ give_ ⟨rfl, rfl⟩ rs_ hrs_
    simp only [List.cons_append, List.nil_append] at hrs_
    subst hrs_
    repeat (first | (apply G.ex (hd := rfl); case h => (first | exact Ex.move rfl | exact Ex.extract rfl rfl)))
    refine G.alloc rfl (fun b => ?_)
    refine G.storeWh (enc := eA) (q := setK 2) rfl rfl .here (eA_len _) ?_
    repeat (first | (apply G.ex (hd := rfl); case h => (first | exact Ex.move rfl | exact Ex.assign rfl)) | refine G.nil ?_ | refine GC.seq ?_ | refine GC.region ?_ | refine GC.block ?_ | refine GE.then_normal ?_ | refine GC.cond_t rfl ?_)
    refine GC.loop (ι := Nat) (fun k => k ≤ l.length ∧ ¬ hit (l.take k)) (fun k => l.length - k) (fun k => [(0, .string (sOf l)), (6, .pointer (some (badr b 0))), (8, .int .i64 (k : Int))]) (fun k => [.blk b 69 (eA (setK 2))]) 0 ⟨Nat.zero_le _, fun ⟨x, hx, _⟩ => nomatch hx⟩ (by simp only [fits]; repeat (first | exact trivial | refine And.intro rfl ?_)) (by repeat (first | exact Takes.nil | apply Takes.dup rfl | apply Takes.cons | exact Take1.here | apply Take1.there)) ?_
    rintro k ⟨hk, hd⟩ fr_ rs_ hfr_ hrs_
    simp only [List.cons_append, List.nil_append] at hfr_ hrs_
    subst hfr_ hrs_
    repeat (first | (apply G.ex (hd := rfl); case h => (first | exact Ex.move rfl | exact Ex.lenO rfl | exact Ex.lss rfl rfl)) | refine G.nil ?_ | refine GC.seq ?_ | refine GC.region ?_ | refine GE.then_normal ?_)
    refine GC.cond_dec rfl (fun hlt => ?_) (fun hlt => ?_)
    · have hlt : k < l.length := by omega
      repeat (first | (apply G.ex (hd := rfl); case h => (first | exact Ex.move rfl | exact Ex.indexO rfl rfl (by omega))) | refine GC.seq ?_ | refine GC.region ?_ | refine GC.block ?_ | refine GC.skip ?_ | refine GE.then_normal ?_)
      first | refine G.call (caps := []) (has_sp b 69 (setK 2) (l.getD k 0)) rfl rfl rfl rfl (by repeat (first | exact Takes.nil | apply Takes.dup rfl | apply Takes.cons | exact Take1.here | apply Take1.there)) ?_ | refine G.callU (caps := []) (has_sp b 69 (setK 2) (l.getD k 0)) rfl rfl rfl (by repeat (first | exact Takes.nil | apply Takes.dup rfl | apply Takes.cons | exact Take1.here | apply Take1.there)) ?_
      rintro v_ give_ ⟨rfl, rfl⟩ rs_ hrs_
      simp only [List.cons_append, List.nil_append] at hrs_
      subst hrs_
      rw [setK2]
      by_cases hc : (l.getD k 0).toNat = 47 ∨ (l.getD k 0).toNat = 0
      · repeat (first | (apply G.ex (hd := rfl); case h => (first | exact Ex.move rfl | exact Ex.assign rfl)) | refine G.nil ?_ | refine GC.seq ?_ | refine GC.region ?_ | refine GC.ret ?_ | refine GE.then_normal ?_ | refine GE.then_ret ?_ | refine GE.block_ret ?_ | refine GC.cond_yes rfl (by first | assumption | omega) ?_)
        refine GE.ret (by first | exact .inl rfl | exact .inr rfl) (by first | exact res0 Tryd.results35 | exact res1 Tryd.results35 rfl | exact res2 Tryd.results35 rfl rfl | exact resR1 Tryd.results35 (by first | exact RV.tmp rfl | exact RV.cell rfl (eP_len _) | exact RV.cell rfl rfl | exact RV.cell1 rfl) | exact resR2 Tryd.results35 (by first | exact RV.tmp rfl | exact RV.cell rfl (eP_len _) | exact RV.cell rfl rfl | exact RV.cell1 rfl) (by first | exact RV.tmp rfl | exact RV.cell rfl (eP_len _) | exact RV.cell rfl rfl | exact RV.cell1 rfl) | exact resR3 Tryd.results35 (by first | exact RV.tmp rfl | exact RV.cell rfl (eP_len _) | exact RV.cell rfl rfl | exact RV.cell1 rfl) (by first | exact RV.tmp rfl | exact RV.cell rfl (eP_len _) | exact RV.cell rfl rfl | exact RV.cell1 rfl) (by first | exact RV.tmp rfl | exact RV.cell rfl (eP_len _) | exact RV.cell rfl rfl | exact RV.cell1 rfl)) ⟨(k : Int), rfl, ⟨fun _ => hit_at hlt hc, fun _ => by omega⟩, rfl⟩ (by repeat (first | exact Takes.nil | apply Takes.dup rfl | apply Takes.cons | exact Take1.here | apply Take1.there)) (by repeat (first | exact Subs.refl | refine Subs.skip ?_))
      · repeat (first | (apply G.ex (hd := rfl); case h => (first | exact Ex.move rfl | exact Ex.add rfl rfl (by omega) | exact Ex.assign rfl)) | refine G.nil ?_ | refine GC.region ?_ | refine GC.skip ?_ | refine GE.then_normal ?_ | refine GE.block_normal ?_ | refine GC.cond_no rfl (by first | assumption | omega) ?_)
        refine GE.loop (k + 1) ⟨by omega, hit_drop hlt hc hd⟩ (by omega) (by simp only [fits]; repeat (first | exact trivial | refine And.intro rfl ?_)) (by repeat (first | exact Takes.nil | apply Takes.dup rfl | apply Takes.cons | exact Take1.here | apply Take1.there)) (by repeat (first | exact Subs.refl | refine Subs.skip ?_))
    · repeat (first | (apply G.ex (hd := rfl); case h => (first | exact Ex.assign rfl)) | refine G.nil ?_ | refine GC.seq ?_ | refine GC.region ?_ | refine GC.ret ?_ | refine GC.exit ?_ | refine GE.then_normal ?_ | refine GE.then_ret ?_ | refine GE.then_exit ?_ | refine GE.block_hit ?_)
      refine GE.ret (by first | exact .inl rfl | exact .inr rfl) (by first | exact res0 Tryd.results35 | exact res1 Tryd.results35 rfl | exact res2 Tryd.results35 rfl rfl | exact resR1 Tryd.results35 (by first | exact RV.tmp rfl | exact RV.cell rfl (eP_len _) | exact RV.cell rfl rfl | exact RV.cell1 rfl) | exact resR2 Tryd.results35 (by first | exact RV.tmp rfl | exact RV.cell rfl (eP_len _) | exact RV.cell rfl rfl | exact RV.cell1 rfl) (by first | exact RV.tmp rfl | exact RV.cell rfl (eP_len _) | exact RV.cell rfl rfl | exact RV.cell1 rfl) | exact resR3 Tryd.results35 (by first | exact RV.tmp rfl | exact RV.cell rfl (eP_len _) | exact RV.cell rfl rfl | exact RV.cell1 rfl) (by first | exact RV.tmp rfl | exact RV.cell rfl (eP_len _) | exact RV.cell rfl rfl | exact RV.cell1 rfl) (by first | exact RV.tmp rfl | exact RV.cell rfl (eP_len _) | exact RV.cell rfl rfl | exact RV.cell1 rfl)) ⟨-1, rfl, ⟨fun h => absurd h (by decide), fun h => absurd h (hit_no (by omega) hd)⟩, rfl⟩ (by repeat (first | exact Takes.nil | apply Takes.dup rfl | apply Takes.cons | exact Take1.here | apply Take1.there)) (by repeat (first | exact Subs.refl | refine Subs.skip ?_))
  · have c1 : ¬ cs2 = [] := by decide
    have c2 : ¬ ((cs2.length : Nat) : Int) = 1 := by decide
    have c3 : ¬ (8 : Int) < (l.length : Int) := by omega
    repeat (first | (apply G.ex (hd := rfl); case h => (first | exact Ex.move rfl | exact Ex.lenO rfl | exact Ex.eqO rfl rfl | exact Ex.eqI rfl rfl | exact Ex.assign rfl)) | refine G.nil ?_ | refine GC.seq ?_ | refine GC.region ?_ | refine GC.skip ?_ | refine GE.then_normal ?_ | refine GC.cond_no rfl (by first | assumption | omega) ?_)
    first | refine G.call (caps := []) (use_sp (l.length : Int)) rfl rfl rfl rfl (by repeat (first | exact Takes.nil | apply Takes.dup rfl | apply Takes.cons | exact Take1.here | apply Take1.there)) ?_ | refine G.callU (caps := []) (use_sp (l.length : Int)) rfl rfl rfl (by repeat (first | exact Takes.nil | apply Takes.dup rfl | apply Takes.cons | exact Take1.here | apply Take1.there)) ?_
    rintro v_ give_ ⟨rfl, rfl⟩ rs_ hrs_
    simp only [List.cons_append, List.nil_append] at hrs_
    subst hrs_
    repeat (first | (apply G.ex (hd := rfl); case h => (first | exact Ex.move rfl)) | refine G.nil ?_ | refine GC.seq ?_ | refine GC.region ?_ | refine GC.skip ?_ | refine GE.then_normal ?_ | refine GC.cond_no rfl (by first | assumption | omega) ?_)
    refine G.rangeS (l := l) rfl rfl (fun b => ?_)
    repeat (first | refine G.nil ?_ | refine GC.block ?_ | refine GE.then_normal ?_)
    refine GC.loop (ι := Nat) (fun k => k ≤ l.length ∧ ¬ hit (l.take k)) (fun k => l.length - k) (fun k => [(1, .string (sOf cs2)), (45, .pointer (some (badr b 0)))]) (fun k => [.own (IterR b (sOf l) k)]) 0 ⟨Nat.zero_le _, fun ⟨x, hx, _⟩ => nomatch hx⟩ (by simp only [fits]; repeat (first | exact trivial | refine And.intro rfl ?_)) (by repeat (first | exact Takes.nil | apply Takes.dup rfl | apply Takes.cons | exact Take1.here | apply Take1.there)) ?_
    rintro k ⟨hk, hd⟩ fr_ rs_ hfr_ hrs_
    simp only [List.cons_append, List.nil_append] at hfr_ hrs_
    subst hfr_ hrs_
    repeat (first | refine GC.seq ?_ | refine GC.region ?_)
    by_cases hlt : k < l.length
    · by_cases hb : (l.getD k 0).toNat < 128
      · have hdec := decode_lo l k hlt hb
        refine G.nextS (l := l) (p := k) rfl hlt hdec .here rfl ?_
        have hv : Utf8.valid (((l.getD k 0).toNat : Nat) : Int) = true := by
          unfold Utf8.valid
          simp only [Bool.or_eq_true, Bool.and_eq_true, decide_eq_true_eq]
          omega
        iterate 4 (first | (apply G.ex (hd := rfl); case h => (first | exact Ex.extract rfl rfl)) | refine G.nil ?_ | refine GC.seq ?_ | refine GE.then_normal ?_)
        refine GC.cond_t rfl ?_
        repeat ((fail_if_success (refine GC.region (id := 20) ?_)); first | (apply G.ex (hd := rfl); case h => (first | exact Ex.extract rfl rfl | exact Ex.assign rfl)) | refine G.nil ?_ | refine GC.seq ?_ | refine GC.region ?_ | refine GC.block ?_ | refine GC.skip ?_ | refine GE.then_normal ?_)
        refine GC.region ?_
        iterate 2 (first | (apply G.ex (hd := rfl); case h => (first | exact Ex.move rfl)))
        first | refine G.call (caps := []) (rune_sp (l.getD k 0).toNat hv (by omega)) rfl rfl rfl rfl (by repeat (first | exact Takes.nil | apply Takes.dup rfl | apply Takes.cons | exact Take1.here | apply Take1.there)) ?_ | refine G.callU (caps := []) (rune_sp (l.getD k 0).toNat hv (by omega)) rfl rfl rfl (by repeat (first | exact Takes.nil | apply Takes.dup rfl | apply Takes.cons | exact Take1.here | apply Take1.there)) ?_
        rintro v_ give_ ⟨rfl, rfl⟩ rs_ hrs_
        simp only [List.cons_append, List.nil_append] at hrs_
        subst hrs_
        by_cases hc : (l.getD k 0).toNat = 47 ∨ (l.getD k 0).toNat = 0
        · have hge : 0 ≤ at2 (l.getD k 0).toNat := by unfold at2; rcases hc with h | h <;> rw [h] <;> decide
          repeat (first | (apply G.ex (hd := rfl); case h => (first | exact Ex.move rfl | exact Ex.geq rfl rfl | exact Ex.assign rfl)) | refine G.nil ?_ | refine GC.seq ?_ | refine GC.region ?_ | refine GC.ret ?_ | refine GE.then_normal ?_ | refine GE.then_ret ?_ | refine GE.block_ret ?_ | refine GC.cond_yes rfl (by first | assumption | omega) ?_)
          refine GE.ret (by first | exact .inl rfl | exact .inr rfl) (by first | exact res0 Tryd.results35 | exact res1 Tryd.results35 rfl | exact res2 Tryd.results35 rfl rfl | exact resR1 Tryd.results35 (by first | exact RV.tmp rfl | exact RV.cell rfl (eP_len _) | exact RV.cell rfl rfl | exact RV.cell1 rfl) | exact resR2 Tryd.results35 (by first | exact RV.tmp rfl | exact RV.cell rfl (eP_len _) | exact RV.cell rfl rfl | exact RV.cell1 rfl) (by first | exact RV.tmp rfl | exact RV.cell rfl (eP_len _) | exact RV.cell rfl rfl | exact RV.cell1 rfl) | exact resR3 Tryd.results35 (by first | exact RV.tmp rfl | exact RV.cell rfl (eP_len _) | exact RV.cell rfl rfl | exact RV.cell1 rfl) (by first | exact RV.tmp rfl | exact RV.cell rfl (eP_len _) | exact RV.cell rfl rfl | exact RV.cell1 rfl) (by first | exact RV.tmp rfl | exact RV.cell rfl (eP_len _) | exact RV.cell rfl rfl | exact RV.cell1 rfl)) ⟨(k : Int), rfl, ⟨fun _ => hit_at hlt hc, fun _ => by omega⟩, rfl⟩ (by repeat (first | exact Takes.nil | apply Takes.dup rfl | apply Takes.cons | exact Take1.here | apply Take1.there)) (by repeat (first | exact Subs.refl | refine Subs.skip ?_))
        · have hge : ¬ 0 ≤ at2 (l.getD k 0).toNat := by unfold at2; rw [if_neg (fun h => hc (.inl h)), if_neg (fun h => hc (.inr h))]; decide
          repeat (first | (apply G.ex (hd := rfl); case h => (first | exact Ex.geq rfl rfl)) | refine G.nil ?_ | refine GC.skip ?_ | refine GE.then_normal ?_ | refine GE.block_normal ?_ | refine GC.cond_no rfl (by first | assumption | omega) ?_)
          refine GE.loop (k + 1) ⟨by omega, hit_drop hlt hc hd⟩ (by omega) (by simp only [fits]; repeat (first | exact trivial | refine And.intro rfl ?_)) (by repeat (first | exact Takes.nil | apply Takes.dup rfl | apply Takes.cons | exact Take1.here | apply Take1.there)) (by repeat (first | exact Subs.refl | refine Subs.skip ?_))
      · obtain ⟨c, wd, hdec, g1, g2, g3, g4, g5, g6⟩ := decode_hi l k hlt (by omega)
        refine G.nextS (l := l) (p := k) rfl hlt hdec .here rfl ?_
        have hge : ¬ 0 ≤ at2 c := by unfold at2; rw [if_neg (by omega), if_neg (by omega)]; decide
        iterate 4 (first | (apply G.ex (hd := rfl); case h => (first | exact Ex.extract rfl rfl)) | refine G.nil ?_ | refine GC.seq ?_ | refine GE.then_normal ?_)
        refine GC.cond_t rfl ?_
        repeat ((fail_if_success (refine GC.region (id := 20) ?_)); first | (apply G.ex (hd := rfl); case h => (first | exact Ex.extract rfl rfl | exact Ex.assign rfl)) | refine G.nil ?_ | refine GC.seq ?_ | refine GC.region ?_ | refine GC.block ?_ | refine GC.skip ?_ | refine GE.then_normal ?_)
        refine GC.region ?_
        iterate 2 (first | (apply G.ex (hd := rfl); case h => (first | exact Ex.move rfl)))
        first | refine G.call (caps := []) (rune_sp c g3 g2) rfl rfl rfl rfl (by repeat (first | exact Takes.nil | apply Takes.dup rfl | apply Takes.cons | exact Take1.here | apply Take1.there)) ?_ | refine G.callU (caps := []) (rune_sp c g3 g2) rfl rfl rfl (by repeat (first | exact Takes.nil | apply Takes.dup rfl | apply Takes.cons | exact Take1.here | apply Take1.there)) ?_
        rintro v_ give_ ⟨rfl, rfl⟩ rs_ hrs_
        simp only [List.cons_append, List.nil_append] at hrs_
        subst hrs_
        repeat (first | (apply G.ex (hd := rfl); case h => (first | exact Ex.geq rfl rfl)) | refine G.nil ?_ | refine GC.skip ?_ | refine GE.then_normal ?_ | refine GE.block_normal ?_ | refine GC.cond_no rfl (by first | assumption | omega) ?_)
        refine GE.loop (k + wd) ⟨by omega, hit_skip wd g5 g6 hd⟩ (by omega) (by simp only [fits]; repeat (first | exact trivial | refine And.intro rfl ?_)) (by repeat (first | exact Takes.nil | apply Takes.dup rfl | apply Takes.cons | exact Take1.here | apply Take1.there)) (by repeat (first | exact Subs.refl | refine Subs.skip ?_))
    · refine G.nextE (l := l) (p := k) rfl (by simp) hlt rfl ?_
      repeat (first | (apply G.ex (hd := rfl); case h => (first | exact Ex.extract rfl rfl | exact Ex.assign rfl)) | refine G.nil ?_ | refine GC.seq ?_ | refine GC.region ?_ | refine GC.ret ?_ | refine GC.exit ?_ | refine GE.then_normal ?_ | refine GE.then_exit ?_ | refine GE.block_hit ?_ | refine GC.cond_f rfl ?_)
      refine GE.ret (by first | exact .inl rfl | exact .inr rfl) (by first | exact res0 Tryd.results35 | exact res1 Tryd.results35 rfl | exact res2 Tryd.results35 rfl rfl | exact resR1 Tryd.results35 (by first | exact RV.tmp rfl | exact RV.cell rfl (eP_len _) | exact RV.cell rfl rfl | exact RV.cell1 rfl) | exact resR2 Tryd.results35 (by first | exact RV.tmp rfl | exact RV.cell rfl (eP_len _) | exact RV.cell rfl rfl | exact RV.cell1 rfl) (by first | exact RV.tmp rfl | exact RV.cell rfl (eP_len _) | exact RV.cell rfl rfl | exact RV.cell1 rfl) | exact resR3 Tryd.results35 (by first | exact RV.tmp rfl | exact RV.cell rfl (eP_len _) | exact RV.cell rfl rfl | exact RV.cell1 rfl) (by first | exact RV.tmp rfl | exact RV.cell rfl (eP_len _) | exact RV.cell rfl rfl | exact RV.cell1 rfl) (by first | exact RV.tmp rfl | exact RV.cell rfl (eP_len _) | exact RV.cell rfl rfl | exact RV.cell1 rfl)) ⟨-1, rfl, ⟨fun h => absurd h (by decide), fun h => absurd h (hit_no (by omega) hd)⟩, rfl⟩ (by repeat (first | exact Takes.nil | apply Takes.dup rfl | apply Takes.cons | exact Take1.here | apply Take1.there)) (by repeat (first | exact Subs.refl | refine Subs.skip ?_))
open Classical in
theorem cany_sp (l : List UInt8) (hl : l.length ≤ 1000000) : Spec Tryd.prog 28 [.string (sOf l), .string (sOf cs2)] [] fun v give => v = .bool (decide (hit l)) ∧ give = [] := by
  refine Spec.intro Tryd.func28 rfl Tryd.ntmps28 rfl fun w0 rest rs_ hrs_ => ?_
  simp only [List.cons_append, List.nil_append] at hrs_
  subst hrs_
  repeat (first | (apply G.ex (hd := rfl); case h => (first | exact Ex.move rfl | exact Ex.assign rfl)) | refine G.nil ?_ | refine GC.seq ?_ | refine GC.region ?_ | refine GE.then_normal ?_)
  first | refine G.call (caps := []) (any_sp l hl) rfl rfl rfl rfl (by repeat (first | exact Takes.nil | apply Takes.dup rfl | apply Takes.cons | exact Take1.here | apply Take1.there)) ?_ | refine G.callU (caps := []) (any_sp l hl) rfl rfl rfl (by repeat (first | exact Takes.nil | apply Takes.dup rfl | apply Takes.cons | exact Take1.here | apply Take1.there)) ?_
  rintro v_ give_ ⟨k, rfl, hk, rfl⟩ rs_ hrs_
  simp only [List.cons_append, List.nil_append] at hrs_
  subst hrs_
  repeat (first | (apply G.ex (hd := rfl); case h => (first | exact Ex.geq rfl rfl | exact Ex.assign rfl)) | refine G.nil ?_ | refine GC.ret ?_ | refine GE.then_normal ?_)
  refine GE.ret (by first | exact .inl rfl | exact .inr rfl) (by first | exact res0 Tryd.results28 | exact res1 Tryd.results28 rfl | exact res2 Tryd.results28 rfl rfl | exact resR1 Tryd.results28 (by first | exact RV.tmp rfl | exact RV.cell rfl (eP_len _) | exact RV.cell rfl rfl | exact RV.cell1 rfl) | exact resR2 Tryd.results28 (by first | exact RV.tmp rfl | exact RV.cell rfl (eP_len _) | exact RV.cell rfl rfl | exact RV.cell1 rfl) (by first | exact RV.tmp rfl | exact RV.cell rfl (eP_len _) | exact RV.cell rfl rfl | exact RV.cell1 rfl) | exact resR3 Tryd.results28 (by first | exact RV.tmp rfl | exact RV.cell rfl (eP_len _) | exact RV.cell rfl rfl | exact RV.cell1 rfl) (by first | exact RV.tmp rfl | exact RV.cell rfl (eP_len _) | exact RV.cell rfl rfl | exact RV.cell1 rfl) (by first | exact RV.tmp rfl | exact RV.cell rfl (eP_len _) | exact RV.cell rfl rfl | exact RV.cell1 rfl)) ⟨congrArg Value.bool (decide_eq_decide.2 hk), rfl⟩ (by repeat (first | exact Takes.nil | apply Takes.dup rfl | apply Takes.cons | exact Take1.here | apply Take1.there)) (by repeat (first | exact Subs.refl | refine Subs.skip ?_))
instance (l : List UInt8) : Decidable (hit l) := inferInstanceAs (Decidable (∃ x ∈ l, x.toNat = 47 ∨ x.toNat = 0))
/-- is it a name? -/
def NameOk (l : List UInt8) : Prop := 1 ≤ l.length ∧ l.length ≤ 16 ∧ l ≠ [46] ∧ l ≠ [46, 46] ∧ ¬ hit l
instance (l : List UInt8) : Decidable (NameOk l) := inferInstanceAs (Decidable (_ ∧ _ ∧ _ ∧ _ ∧ _))
set_option maxHeartbeats 4000000 in
theorem name_sp (l : List UInt8) (hl : l.length ≤ 1000000) : Spec Tryd.prog 20 [.string (sOf l)] [] fun v give => v = .bool (decide (NameOk l)) ∧ give = [] := by
  refine Spec.intro Tryd.func20 rfl Tryd.ntmps20 rfl fun w0 rest rs_ hrs_ => ?_
  simp only [List.cons_append, List.nil_append] at hrs_
  subst hrs_
  by_cases h1 : 1 ≤ l.length
  · by_cases h2 : l.length ≤ 16
    · by_cases h3 : l = [46]
      · have h3' : ¬ ¬ l = [46] := fun h => h h3
        repeat (first | (apply G.ex (hd := rfl); case h => (first | exact Ex.move rfl | exact Ex.lenO rfl | exact Ex.neO rfl rfl | exact Ex.leq rfl rfl | exact Ex.geq rfl rfl | exact Ex.assign rfl | exact Ex.pickT rfl (by first | assumption | omega) rfl | exact Ex.pickF rfl (by first | assumption | omega) rfl | exact Ex.pickLF rfl rfl)) | refine G.g_tt rfl rfl (by first | assumption | omega) ?_ | refine G.g_tf rfl rfl (by first | assumption | omega) rfl ?_ | refine G.l_tf rfl rfl rfl ?_ | refine G.nil ?_ | refine GC.seq ?_ | refine GC.region ?_ | refine GC.ret ?_ | refine GE.then_normal ?_)
        refine GE.ret (by first | exact .inl rfl | exact .inr rfl) (by first | exact res0 Tryd.results20 | exact res1 Tryd.results20 rfl | exact res2 Tryd.results20 rfl rfl | exact resR1 Tryd.results20 (by first | exact RV.tmp rfl | exact RV.cell rfl (eP_len _) | exact RV.cell rfl rfl | exact RV.cell1 rfl) | exact resR2 Tryd.results20 (by first | exact RV.tmp rfl | exact RV.cell rfl (eP_len _) | exact RV.cell rfl rfl | exact RV.cell1 rfl) (by first | exact RV.tmp rfl | exact RV.cell rfl (eP_len _) | exact RV.cell rfl rfl | exact RV.cell1 rfl) | exact resR3 Tryd.results20 (by first | exact RV.tmp rfl | exact RV.cell rfl (eP_len _) | exact RV.cell rfl rfl | exact RV.cell1 rfl) (by first | exact RV.tmp rfl | exact RV.cell rfl (eP_len _) | exact RV.cell rfl rfl | exact RV.cell1 rfl) (by first | exact RV.tmp rfl | exact RV.cell rfl (eP_len _) | exact RV.cell rfl rfl | exact RV.cell1 rfl)) ⟨congrArg Value.bool (decide_eq_false (fun h => h.2.2.1 h3)).symm, rfl⟩ (by repeat (first | exact Takes.nil | apply Takes.dup rfl | apply Takes.cons | exact Take1.here | apply Take1.there)) (by repeat (first | exact Subs.refl | refine Subs.skip ?_))
      · by_cases h4 : l = [46, 46]
        · have h4' : ¬ ¬ l = [46, 46] := fun h => h h4
          repeat (first | (apply G.ex (hd := rfl); case h => (first | exact Ex.move rfl | exact Ex.lenO rfl | exact Ex.neO rfl rfl | exact Ex.leq rfl rfl | exact Ex.geq rfl rfl | exact Ex.assign rfl | exact Ex.pickT rfl (by first | assumption | omega) rfl | exact Ex.pickF rfl (by first | assumption | omega) rfl)) | refine G.g_tt rfl rfl (by first | assumption | omega) ?_ | refine G.g_tf rfl rfl (by first | assumption | omega) rfl ?_ | refine G.nil ?_ | refine GC.seq ?_ | refine GC.region ?_ | refine GC.ret ?_ | refine GE.then_normal ?_)
          refine GE.ret (by first | exact .inl rfl | exact .inr rfl) (by first | exact res0 Tryd.results20 | exact res1 Tryd.results20 rfl | exact res2 Tryd.results20 rfl rfl | exact resR1 Tryd.results20 (by first | exact RV.tmp rfl | exact RV.cell rfl (eP_len _) | exact RV.cell rfl rfl | exact RV.cell1 rfl) | exact resR2 Tryd.results20 (by first | exact RV.tmp rfl | exact RV.cell rfl (eP_len _) | exact RV.cell rfl rfl | exact RV.cell1 rfl) (by first | exact RV.tmp rfl | exact RV.cell rfl (eP_len _) | exact RV.cell rfl rfl | exact RV.cell1 rfl) | exact resR3 Tryd.results20 (by first | exact RV.tmp rfl | exact RV.cell rfl (eP_len _) | exact RV.cell rfl rfl | exact RV.cell1 rfl) (by first | exact RV.tmp rfl | exact RV.cell rfl (eP_len _) | exact RV.cell rfl rfl | exact RV.cell1 rfl) (by first | exact RV.tmp rfl | exact RV.cell rfl (eP_len _) | exact RV.cell rfl rfl | exact RV.cell1 rfl)) ⟨congrArg Value.bool (decide_eq_false (fun h => h.2.2.2.1 h4)).symm, rfl⟩ (by repeat (first | exact Takes.nil | apply Takes.dup rfl | apply Takes.cons | exact Take1.here | apply Take1.there)) (by repeat (first | exact Subs.refl | refine Subs.skip ?_))
        · repeat (first | (apply G.ex (hd := rfl); case h => (first | exact Ex.move rfl | exact Ex.lenO rfl | exact Ex.neO rfl rfl | exact Ex.leq rfl rfl | exact Ex.geq rfl rfl | exact Ex.assign rfl | exact Ex.pickT rfl (by first | assumption | omega) rfl)) | refine G.g_tt rfl rfl (by first | assumption | omega) ?_ | refine G.nil ?_ | refine GC.seq ?_ | refine GC.region ?_ | refine GE.then_normal ?_)
          first | refine G.call (caps := []) (cany_sp l hl) rfl rfl rfl rfl (by repeat (first | exact Takes.nil | apply Takes.dup rfl | apply Takes.cons | exact Take1.here | apply Take1.there)) ?_ | refine G.callU (caps := []) (cany_sp l hl) rfl rfl rfl (by repeat (first | exact Takes.nil | apply Takes.dup rfl | apply Takes.cons | exact Take1.here | apply Take1.there)) ?_
          rintro v_ give_ ⟨rfl, rfl⟩ rs_ hrs_
          simp only [List.cons_append, List.nil_append] at hrs_
          subst hrs_
          repeat (first | (apply G.ex (hd := rfl); case h => (first | exact Ex.assign rfl | exact Ex.notD rfl | exact Ex.pickT rfl (by first | assumption | omega) rfl)) | refine G.g_tt rfl rfl (by first | assumption | omega) ?_ | refine G.nil ?_ | refine GC.ret ?_ | refine GE.then_normal ?_)
          refine GE.ret (by first | exact .inl rfl | exact .inr rfl) (by first | exact res0 Tryd.results20 | exact res1 Tryd.results20 rfl | exact res2 Tryd.results20 rfl rfl | exact resR1 Tryd.results20 (by first | exact RV.tmp rfl | exact RV.cell rfl (eP_len _) | exact RV.cell rfl rfl | exact RV.cell1 rfl) | exact resR2 Tryd.results20 (by first | exact RV.tmp rfl | exact RV.cell rfl (eP_len _) | exact RV.cell rfl rfl | exact RV.cell1 rfl) (by first | exact RV.tmp rfl | exact RV.cell rfl (eP_len _) | exact RV.cell rfl rfl | exact RV.cell1 rfl) | exact resR3 Tryd.results20 (by first | exact RV.tmp rfl | exact RV.cell rfl (eP_len _) | exact RV.cell rfl rfl | exact RV.cell1 rfl) (by first | exact RV.tmp rfl | exact RV.cell rfl (eP_len _) | exact RV.cell rfl rfl | exact RV.cell1 rfl) (by first | exact RV.tmp rfl | exact RV.cell rfl (eP_len _) | exact RV.cell rfl rfl | exact RV.cell1 rfl)) ⟨congrArg Value.bool (decide_eq_decide.2 ⟨fun h => ⟨h1, h2, h3, h4, h⟩, fun h => h.2.2.2.2⟩), rfl⟩ (by repeat (first | exact Takes.nil | apply Takes.dup rfl | apply Takes.cons | exact Take1.here | apply Take1.there)) (by repeat (first | exact Subs.refl | refine Subs.skip ?_))
    · repeat (first | (apply G.ex (hd := rfl); case h => (first | exact Ex.move rfl | exact Ex.lenO rfl | exact Ex.leq rfl rfl | exact Ex.geq rfl rfl | exact Ex.assign rfl | exact Ex.pickT rfl (by first | assumption | omega) rfl | exact Ex.pickF rfl (by first | assumption | omega) rfl | exact Ex.pickLF rfl rfl)) | refine G.g_tt rfl rfl (by first | assumption | omega) ?_ | refine G.g_tf rfl rfl (by first | assumption | omega) rfl ?_ | refine G.l_tf rfl rfl rfl ?_ | refine G.nil ?_ | refine GC.seq ?_ | refine GC.region ?_ | refine GC.ret ?_ | refine GE.then_normal ?_)
      refine GE.ret (by first | exact .inl rfl | exact .inr rfl) (by first | exact res0 Tryd.results20 | exact res1 Tryd.results20 rfl | exact res2 Tryd.results20 rfl rfl | exact resR1 Tryd.results20 (by first | exact RV.tmp rfl | exact RV.cell rfl (eP_len _) | exact RV.cell rfl rfl | exact RV.cell1 rfl) | exact resR2 Tryd.results20 (by first | exact RV.tmp rfl | exact RV.cell rfl (eP_len _) | exact RV.cell rfl rfl | exact RV.cell1 rfl) (by first | exact RV.tmp rfl | exact RV.cell rfl (eP_len _) | exact RV.cell rfl rfl | exact RV.cell1 rfl) | exact resR3 Tryd.results20 (by first | exact RV.tmp rfl | exact RV.cell rfl (eP_len _) | exact RV.cell rfl rfl | exact RV.cell1 rfl) (by first | exact RV.tmp rfl | exact RV.cell rfl (eP_len _) | exact RV.cell rfl rfl | exact RV.cell1 rfl) (by first | exact RV.tmp rfl | exact RV.cell rfl (eP_len _) | exact RV.cell rfl rfl | exact RV.cell1 rfl)) ⟨congrArg Value.bool (decide_eq_false (fun h => h2 h.2.1)).symm, rfl⟩ (by repeat (first | exact Takes.nil | apply Takes.dup rfl | apply Takes.cons | exact Take1.here | apply Take1.there)) (by repeat (first | exact Subs.refl | refine Subs.skip ?_))
  · repeat (first | (apply G.ex (hd := rfl); case h => (first | exact Ex.move rfl | exact Ex.lenO rfl | exact Ex.geq rfl rfl | exact Ex.assign rfl | exact Ex.pickF rfl (by first | assumption | omega) rfl | exact Ex.pickLF rfl rfl)) | refine G.g_tf rfl rfl (by first | assumption | omega) rfl ?_ | refine G.l_tf rfl rfl rfl ?_ | refine G.nil ?_ | refine GC.seq ?_ | refine GC.region ?_ | refine GC.ret ?_ | refine GE.then_normal ?_)
    refine GE.ret (by first | exact .inl rfl | exact .inr rfl) (by first | exact res0 Tryd.results20 | exact res1 Tryd.results20 rfl | exact res2 Tryd.results20 rfl rfl | exact resR1 Tryd.results20 (by first | exact RV.tmp rfl | exact RV.cell rfl (eP_len _) | exact RV.cell rfl rfl | exact RV.cell1 rfl) | exact resR2 Tryd.results20 (by first | exact RV.tmp rfl | exact RV.cell rfl (eP_len _) | exact RV.cell rfl rfl | exact RV.cell1 rfl) (by first | exact RV.tmp rfl | exact RV.cell rfl (eP_len _) | exact RV.cell rfl rfl | exact RV.cell1 rfl) | exact resR3 Tryd.results20 (by first | exact RV.tmp rfl | exact RV.cell rfl (eP_len _) | exact RV.cell rfl rfl | exact RV.cell1 rfl) (by first | exact RV.tmp rfl | exact RV.cell rfl (eP_len _) | exact RV.cell rfl rfl | exact RV.cell1 rfl) (by first | exact RV.tmp rfl | exact RV.cell rfl (eP_len _) | exact RV.cell rfl rfl | exact RV.cell1 rfl)) ⟨congrArg Value.bool (decide_eq_false (fun h => h1 h.1)).symm, rfl⟩ (by repeat (first | exact Takes.nil | apply Takes.dup rfl | apply Takes.cons | exact Take1.here | apply Take1.there)) (by repeat (first | exact Subs.refl | refine Subs.skip ?_))
end path
end Go.Proofs.YtjfdpfjngajnlaaDoor
