/-
  CONTRACTS of strings.SplitSeq by "/" and of the iterator that it makes: whatever a round keeps, all rounds keep; a round may end them. By the kit.
-/
import Derived.Test.YtjfdpfjngajnlaaDoorKit34
import Derived.Test.YtjfdpfjngajnlaaDoorName2
namespace Go.Proofs.YtjfdpfjngajnlaaDoor
open Go.RowKit
attribute [local irreducible] Ex G GC GE Gq FPost LPost
set_option linter.unusedVariables false
set_option linter.unusedSimpArgs false
namespace path
/-- the parts of a path -/
def splitF : List UInt8 → List (List UInt8)
  | [] => [[]]
  | c :: t => if c = 47 then [] :: splitF t else match splitF t with
    | [] => [[c]]
    | h :: r => (c :: h) :: r
theorem splitF_cons (c : UInt8) (t : List UInt8) : splitF (c :: t) = if c = 47 then [] :: splitF t else match splitF t with
    | [] => [[c]]
    | h :: r => (c :: h) :: r := rfl
theorem splitF_ne : ∀ s, splitF s ≠ []
  | [] => by simp [splitF]
  | c :: t => by
    unfold splitF
    split
    · simp
    · split <;> simp
theorem ib_ge (l : List UInt8) (c : UInt8) : -1 ≤ Lib.indexByte l c := Lib.indexByte_ge l c
theorem ib_cons (b : UInt8) (l : List UInt8) (c : UInt8) : Lib.indexByte (b :: l) c = if b == c then 0 else if Lib.indexByte l c == -1 then -1 else Lib.indexByte l c + 1 := by
  rw [Lib.indexByte]
theorem split_none : ∀ s : List UInt8, Lib.indexByte s 47 < 0 → splitF s = [s]
  | [], _ => rfl
  | c :: t, h => by
    rw [ib_cons] at h
    have hg := ib_ge t 47
    by_cases hc : c = 47
    · subst hc; simp at h
    · rw [if_neg (by simpa using hc)] at h
      have h2 : Lib.indexByte t 47 < 0 := by
        split at h
        · rename_i e; have := beq_iff_eq.1 e; omega
        · rename_i e; have : ¬ Lib.indexByte t 47 = -1 := fun e' => e (by rw [e']; rfl)
          omega
      unfold splitF
      rw [if_neg hc, split_none t h2]
theorem split_some : ∀ (s : List UInt8) (i : Nat), Lib.indexByte s 47 = (i : Int) → i < s.length ∧ splitF s = s.take i :: splitF (s.drop (i + 1))
  | [], i, h => by
    exfalso
    have h' : (-1 : Int) = (i : Int) := h
    omega
  | c :: t, i, h => by
    rw [ib_cons] at h
    have hg := ib_ge t 47
    by_cases hc : c = 47
    · subst hc
      rw [if_pos (by simp)] at h
      obtain rfl : i = 0 := by omega
      exact ⟨by simp, by rw [splitF_cons, if_pos rfl]; rfl⟩
    · rw [if_neg (by simpa using hc)] at h
      by_cases e : Lib.indexByte t 47 = -1
      · rw [if_pos (by rw [e]; rfl)] at h; omega
      · rw [if_neg (by simpa using e)] at h
        obtain ⟨j, rfl⟩ : ∃ j, i = j + 1 := ⟨i - 1, by omega⟩
        obtain ⟨h1, h2⟩ := split_some t j (by omega)
        refine ⟨by simp; omega, ?_⟩
        rw [splitF_cons, if_neg hc, h2]
        rfl
theorem sidx_sp (l : List UInt8) : Spec Tryd.prog 39 [.string (sOf l), .string (sOf [47])] [] fun v give => v = .int .i64 (Lib.indexByte l 47) ∧ give = [] := by
  refine Spec.intro Tryd.func39 rfl Tryd.ntmps39 rfl fun w0 rest rs_ hrs_ => ?_
  simp only [List.cons_append, List.nil_append] at hrs_
  subst hrs_
  by_cases h : [47] = l
  · have e : Lib.indexByte l 47 = 0 := by rw [← h]; rfl
    rw [e]
    repeat (first | (apply G.ex (hd := rfl); case h => (first | exact Ex.move rfl | exact Ex.lenO rfl | exact Ex.eqO rfl rfl | exact Ex.eqI rfl rfl | exact Ex.assign rfl | exact Ex.pickLF rfl rfl)) | refine G.yes rfl rfl ?_ | refine G.nil ?_ | refine GC.seq ?_ | refine GC.region ?_ | refine GC.block ?_ | refine GC.ret ?_ | refine GE.then_normal ?_ | refine GE.then_ret ?_ | refine GE.block_ret ?_ | refine GC.cond_yes rfl (by first | assumption | omega) ?_)
    refine GE.ret (by first | exact .inl rfl | exact .inr rfl) (by first | exact res0 Tryd.results39 | exact res1 Tryd.results39 rfl | exact res2 Tryd.results39 rfl rfl | exact resR1 Tryd.results39 (by first | exact RV.tmp rfl | exact RV.cell rfl (eP_len _) | exact RV.cell rfl rfl | exact RV.cell1 rfl) | exact resR2 Tryd.results39 (by first | exact RV.tmp rfl | exact RV.cell rfl (eP_len _) | exact RV.cell rfl rfl | exact RV.cell1 rfl) (by first | exact RV.tmp rfl | exact RV.cell rfl (eP_len _) | exact RV.cell rfl rfl | exact RV.cell1 rfl) | exact resR3 Tryd.results39 (by first | exact RV.tmp rfl | exact RV.cell rfl (eP_len _) | exact RV.cell rfl rfl | exact RV.cell1 rfl) (by first | exact RV.tmp rfl | exact RV.cell rfl (eP_len _) | exact RV.cell rfl rfl | exact RV.cell1 rfl) (by first | exact RV.tmp rfl | exact RV.cell rfl (eP_len _) | exact RV.cell rfl rfl | exact RV.cell1 rfl)) ⟨rfl, rfl⟩ (by repeat (first | exact Takes.nil | apply Takes.dup rfl | apply Takes.cons | exact Take1.here | apply Take1.there)) (by repeat (first | exact Subs.refl | refine Subs.skip ?_))
  · repeat (first | (apply G.ex (hd := rfl); case h => (first | exact Ex.move rfl | exact Ex.lenO rfl | exact Ex.eqO rfl rfl | exact Ex.eqI rfl rfl | exact Ex.assign rfl | exact Ex.pickLF rfl rfl)) | refine G.yes rfl rfl ?_ | refine G.nil ?_ | refine GC.seq ?_ | refine GC.region ?_ | refine GC.block ?_ | refine GE.then_normal ?_ | refine GC.cond_no rfl (by first | assumption | omega) ?_ | refine GC.cond_t rfl ?_)
    refine G.ex (Ex.indexO (l := [47]) (k := 0) rfl rfl (by decide)) rfl ?_
    first | refine G.call (caps := []) (ibs_sp l 47) rfl rfl rfl rfl (by repeat (first | exact Takes.nil | apply Takes.dup rfl | apply Takes.cons | exact Take1.here | apply Take1.there)) ?_ | refine G.callU (caps := []) (ibs_sp l 47) rfl rfl rfl (by repeat (first | exact Takes.nil | apply Takes.dup rfl | apply Takes.cons | exact Take1.here | apply Take1.there)) ?_
    rintro v_ give_ ⟨rfl, rfl⟩ rs_ hrs_
    simp only [List.cons_append, List.nil_append] at hrs_
    subst hrs_
    repeat (first | (apply G.ex (hd := rfl); case h => (first | exact Ex.assign rfl)) | refine G.nil ?_ | refine GC.ret ?_ | refine GE.then_normal ?_ | refine GE.then_ret ?_ | refine GE.block_ret ?_)
    refine GE.ret (by first | exact .inl rfl | exact .inr rfl) (by first | exact res0 Tryd.results39 | exact res1 Tryd.results39 rfl | exact res2 Tryd.results39 rfl rfl | exact resR1 Tryd.results39 (by first | exact RV.tmp rfl | exact RV.cell rfl (eP_len _) | exact RV.cell rfl rfl | exact RV.cell1 rfl) | exact resR2 Tryd.results39 (by first | exact RV.tmp rfl | exact RV.cell rfl (eP_len _) | exact RV.cell rfl rfl | exact RV.cell1 rfl) (by first | exact RV.tmp rfl | exact RV.cell rfl (eP_len _) | exact RV.cell rfl rfl | exact RV.cell1 rfl) | exact resR3 Tryd.results39 (by first | exact RV.tmp rfl | exact RV.cell rfl (eP_len _) | exact RV.cell rfl rfl | exact RV.cell1 rfl) (by first | exact RV.tmp rfl | exact RV.cell rfl (eP_len _) | exact RV.cell rfl rfl | exact RV.cell1 rfl) (by first | exact RV.tmp rfl | exact RV.cell rfl (eP_len _) | exact RV.cell rfl rfl | exact RV.cell1 rfl)) ⟨rfl, rfl⟩ (by repeat (first | exact Takes.nil | apply Takes.dup rfl | apply Takes.cons | exact Take1.here | apply Take1.there)) (by repeat (first | exact Subs.refl | refine Subs.skip ?_))
theorem idx1_sp (l : List UInt8) : Spec Tryd.prog 34 [.string (sOf l), .string (sOf [47])] [] fun v give => v = .int .i64 (Lib.indexByte l 47) ∧ give = [] := by
  refine Spec.intro Tryd.func34 rfl Tryd.ntmps34 rfl fun w0 rest rs_ hrs_ => ?_
  simp only [List.cons_append, List.nil_append] at hrs_
  subst hrs_
  repeat (first | (apply G.ex (hd := rfl); case h => (first | exact Ex.move rfl | exact Ex.assign rfl)) | refine G.nil ?_ | refine GC.seq ?_ | refine GC.region ?_ | refine GE.then_normal ?_)
  first | refine G.call (caps := []) (sidx_sp l) rfl rfl rfl rfl (by repeat (first | exact Takes.nil | apply Takes.dup rfl | apply Takes.cons | exact Take1.here | apply Take1.there)) ?_ | refine G.callU (caps := []) (sidx_sp l) rfl rfl rfl (by repeat (first | exact Takes.nil | apply Takes.dup rfl | apply Takes.cons | exact Take1.here | apply Take1.there)) ?_
  rintro v_ give_ ⟨rfl, rfl⟩ rs_ hrs_
  simp only [List.cons_append, List.nil_append] at hrs_
  subst hrs_
  repeat (first | (apply G.ex (hd := rfl); case h => (first | exact Ex.assign rfl)) | refine G.nil ?_ | refine GC.ret ?_ | refine GE.then_normal ?_)
  refine GE.ret (by first | exact .inl rfl | exact .inr rfl) (by first | exact res0 Tryd.results34 | exact res1 Tryd.results34 rfl | exact res2 Tryd.results34 rfl rfl | exact resR1 Tryd.results34 (by first | exact RV.tmp rfl | exact RV.cell rfl (eP_len _) | exact RV.cell rfl rfl | exact RV.cell1 rfl) | exact resR2 Tryd.results34 (by first | exact RV.tmp rfl | exact RV.cell rfl (eP_len _) | exact RV.cell rfl rfl | exact RV.cell1 rfl) (by first | exact RV.tmp rfl | exact RV.cell rfl (eP_len _) | exact RV.cell rfl rfl | exact RV.cell1 rfl) | exact resR3 Tryd.results34 (by first | exact RV.tmp rfl | exact RV.cell rfl (eP_len _) | exact RV.cell rfl rfl | exact RV.cell1 rfl) (by first | exact RV.tmp rfl | exact RV.cell rfl (eP_len _) | exact RV.cell rfl rfl | exact RV.cell1 rfl) (by first | exact RV.tmp rfl | exact RV.cell rfl (eP_len _) | exact RV.cell rfl rfl | exact RV.cell1 rfl)) ⟨rfl, rfl⟩ (by repeat (first | exact Takes.nil | apply Takes.dup rfl | apply Takes.cons | exact Take1.here | apply Take1.there)) (by repeat (first | exact Subs.refl | refine Subs.skip ?_))
theorem splitq_sp (s : List UInt8) : Spec Tryd.prog 19 [.string (sOf s), .string (sOf [47])] [] fun v give => ∃ pb sb kb, v = .func (.func 32) #[] #[.pointer (some (badr pb 0)), .pointer (some (badr sb 0)), .pointer (some (badr kb 0))] ∧
    give = [.blk pb 9 [.string (sOf [47])], .blk sb 9 [.string (sOf s)], .blk kb 3 [.int .i64 0]] := by
  have h : Spec Tryd.prog 27 [.string (sOf s), .string (sOf [47]), .int .i64 0] [] fun v give => ∃ pb sb kb, v = .func (.func 32) #[] #[.pointer (some (badr pb 0)), .pointer (some (badr sb 0)), .pointer (some (badr kb 0))] ∧
      give = [.blk pb 9 [.string (sOf [47])], .blk sb 9 [.string (sOf s)], .blk kb 3 [.int .i64 0]] := by
    refine Spec.intro Tryd.func27 rfl Tryd.ntmps27 rfl fun w0 rest rs_ hrs_ => ?_
    simp only [List.cons_append, List.nil_append] at hrs_
    subst hrs_
    repeat (first | refine GC.seq ?_ | refine GC.region ?_)
    refine G.box rfl rfl rfl (fun sb => ?_)
    refine G.box rfl rfl rfl (fun pb => ?_)
    refine G.box rfl rfl rfl (fun kb => ?_)
    repeat (first | (apply G.ex (hd := rfl); case h => (first | exact Ex.assign rfl | exact Ex.mkFunc rfl)) | refine G.nil ?_ | refine GC.seq ?_ | refine GC.region ?_ | refine GC.ret ?_ | refine GE.then_normal ?_)
    refine GE.ret (by first | exact .inl rfl | exact .inr rfl) (by first | exact res0 Tryd.results27 | exact res1 Tryd.results27 rfl | exact res2 Tryd.results27 rfl rfl | exact resR1 Tryd.results27 (by first | exact RV.tmp rfl | exact RV.cell rfl (eP_len _) | exact RV.cell rfl rfl | exact RV.cell1 rfl) | exact resR2 Tryd.results27 (by first | exact RV.tmp rfl | exact RV.cell rfl (eP_len _) | exact RV.cell rfl rfl | exact RV.cell1 rfl) (by first | exact RV.tmp rfl | exact RV.cell rfl (eP_len _) | exact RV.cell rfl rfl | exact RV.cell1 rfl) | exact resR3 Tryd.results27 (by first | exact RV.tmp rfl | exact RV.cell rfl (eP_len _) | exact RV.cell rfl rfl | exact RV.cell1 rfl) (by first | exact RV.tmp rfl | exact RV.cell rfl (eP_len _) | exact RV.cell rfl rfl | exact RV.cell1 rfl) (by first | exact RV.tmp rfl | exact RV.cell rfl (eP_len _) | exact RV.cell rfl rfl | exact RV.cell1 rfl)) ⟨_, _, _, rfl, rfl⟩ (by repeat (first | exact Takes.nil | apply Takes.dup rfl | apply Takes.cons | exact Take1.here | apply Take1.there)) (by repeat (first | exact Subs.refl | refine Subs.skip ?_))
  refine Spec.intro Tryd.func19 rfl Tryd.ntmps19 rfl fun w0 rest rs_ hrs_ => ?_
  simp only [List.cons_append, List.nil_append] at hrs_
  subst hrs_
  repeat (first | (apply G.ex (hd := rfl); case h => (first | exact Ex.move rfl | exact Ex.assign rfl)) | refine G.nil ?_ | refine GC.seq ?_ | refine GC.region ?_ | refine GE.then_normal ?_)
  first | refine G.call (caps := []) (h) rfl rfl rfl rfl (by repeat (first | exact Takes.nil | apply Takes.dup rfl | apply Takes.cons | exact Take1.here | apply Take1.there)) ?_ | refine G.callU (caps := []) (h) rfl rfl rfl (by repeat (first | exact Takes.nil | apply Takes.dup rfl | apply Takes.cons | exact Take1.here | apply Take1.there)) ?_
  rintro v_ give_ ⟨pb, sb, kb, rfl, rfl⟩ rs_ hrs_
  simp only [List.cons_append, List.nil_append] at hrs_
  subst hrs_
  repeat (first | (apply G.ex (hd := rfl); case h => (first | exact Ex.assign rfl)) | refine G.nil ?_ | refine GC.ret ?_ | refine GE.then_normal ?_)
  refine GE.ret (by first | exact .inl rfl | exact .inr rfl) (by first | exact res0 Tryd.results19 | exact res1 Tryd.results19 rfl | exact res2 Tryd.results19 rfl rfl | exact resR1 Tryd.results19 (by first | exact RV.tmp rfl | exact RV.cell rfl (eP_len _) | exact RV.cell rfl rfl | exact RV.cell1 rfl) | exact resR2 Tryd.results19 (by first | exact RV.tmp rfl | exact RV.cell rfl (eP_len _) | exact RV.cell rfl rfl | exact RV.cell1 rfl) (by first | exact RV.tmp rfl | exact RV.cell rfl (eP_len _) | exact RV.cell rfl rfl | exact RV.cell1 rfl) | exact resR3 Tryd.results19 (by first | exact RV.tmp rfl | exact RV.cell rfl (eP_len _) | exact RV.cell rfl rfl | exact RV.cell1 rfl) (by first | exact RV.tmp rfl | exact RV.cell rfl (eP_len _) | exact RV.cell rfl rfl | exact RV.cell1 rfl) (by first | exact RV.tmp rfl | exact RV.cell rfl (eP_len _) | exact RV.cell rfl rfl | exact RV.cell1 rfl)) ⟨_, _, _, rfl, rfl⟩ (by repeat (first | exact Takes.nil | apply Takes.dup rfl | apply Takes.cons | exact Take1.here | apply Take1.there)) (by repeat (first | exact Subs.refl | refine Subs.skip ?_))
set_option maxHeartbeats 2000000 in
theorem split1_sp (s : List UInt8) (hs : s.length ≤ 1000000) (pb sb kb yl : Nat) (rec_ : Loop) {κ ι' : Type} (φ : Nat → κ → Prop) (ψ : ι' → Prop) (rsI : κ → List Res) (rsS : ι' → List Res)
    (hY : ∀ k i, k < (splitF s).length → φ k i → YSpec Tryd.prog yl [.string (sOf ((splitF s).getD k []))] (.own (LoopR yl rec_) :: rsI i) (RPost yl rec_ (fun g => ∃ j, φ (k + 1) j ∧ g = rsI j) (fun g => ∃ j, ψ j ∧ g = rsS j))) (i0 : κ) (h0 : φ 0 i0) :
    Spec Tryd.prog 32 [.func (.yield yl) #[] #[], .pointer (some (badr pb 0)), .pointer (some (badr sb 0)), .pointer (some (badr kb 0))] (.own (LoopR yl rec_) :: .blk pb 9 [.string (sOf [47])] :: .blk sb 9 [.string (sOf s)] :: .blk kb 3 [.int .i64 0] :: rsI i0)
      fun v give => (∃ g, (∃ j, φ (splitF s).length j ∧ g = rsI j) ∧ give = .own (LoopR yl rec_) :: g) ∨ (∃ g, (∃ j, ψ j ∧ g = rsS j) ∧ give = .own (LoopR yl (outOf rec_)) :: g) := by
  refine Spec.intro Tryd.func32 rfl Tryd.ntmps32 rfl fun w0 rest rs_ hrs_ => ?_
  simp only [List.cons_append, List.nil_append] at hrs_
  subst hrs_
  repeat (first | (apply G.ex (hd := rfl); case h => (first | exact Ex.lenO rfl | exact Ex.loadB rfl rfl | exact Ex.eqI rfl rfl)) | refine G.nil ?_ | refine GC.seq ?_ | refine GC.region ?_ | refine GC.block ?_ | refine GC.skip ?_ | refine GE.then_normal ?_ | refine GC.cond_f rfl ?_)
  refine GC.loop (ι := Nat × List UInt8 × κ) (fun x => x.1 < (splitF s).length ∧ (splitF s).drop x.1 = splitF x.2.1 ∧ x.2.1.length ≤ s.length ∧ φ x.1 x.2.2) (fun x => (splitF s).length - x.1) (fun x => [(0, .func (.yield yl) #[] #[]), (1, .pointer (some (badr pb 0))), (2, .pointer (some (badr sb 0))), (3, .pointer (some (badr kb 0)))]) (fun x => .own (LoopR yl rec_) :: .blk pb 9 [.string (sOf [47])] :: .blk sb 9 [.string (sOf x.2.1)] :: .blk kb 3 [.int .i64 0] :: rsI x.2.2) (0, s, i0) ⟨List.length_pos_iff.2 (splitF_ne s), rfl, Nat.le_refl _, h0⟩ (by simp only [fits]; repeat (first | exact trivial | refine And.intro rfl ?_)) (Takes.cons .here (.cons .here (.cons .here (.cons .here Takes.app)))) ?_
  rintro ⟨k, d, i⟩ ⟨hk, he, hd, hi⟩ fr_ rs_ hfr_ hrs_
  simp only [List.cons_append, List.nil_append] at hfr_ hrs_
  subst hfr_ hrs_
  simp only at hk he hd hi
  repeat (first | (apply G.ex (hd := rfl); case h => (first | exact Ex.loadB rfl rfl)) | refine GC.seq ?_ | refine GC.region ?_ | refine GC.block ?_)
  first | refine G.call (caps := []) (idx1_sp d) rfl rfl rfl rfl (by repeat (first | exact Takes.nil | apply Takes.dup rfl | apply Takes.cons | exact Take1.here | apply Take1.there)) ?_ | refine G.callU (caps := []) (idx1_sp d) rfl rfl rfl (by repeat (first | exact Takes.nil | apply Takes.dup rfl | apply Takes.cons | exact Take1.here | apply Take1.there)) ?_
  rintro v_ give_ ⟨rfl, rfl⟩ rs_ hrs_
  simp only [List.cons_append, List.nil_append] at hrs_
  subst hrs_
  have hge := ib_ge d 47
  have hget : (splitF s).getD k [] = (splitF d).getD 0 [] := by
    rw [← he, List.getD_eq_getElem?_getD, List.getD_eq_getElem?_getD, List.getElem?_drop]; rfl
  by_cases h1 : Lib.indexByte d 47 < 0
  · have hsd := split_none d h1
    rw [hsd] at hget he
    have hgd : (splitF s).getD k [] = d := hget
    have hk1 : k + 1 = (splitF s).length := by
      have := congrArg List.length he
      rw [List.length_drop] at this
      simp at this; omega
    have hYk := hY k i hk hi
    rw [hgd] at hYk
    repeat ((fail_if_success (refine GC.region (id := 10) ?_)); first | (apply G.ex (hd := rfl); case h => (first | exact Ex.move rfl | exact Ex.lss rfl rfl | exact Ex.assign rfl)) | refine G.nil ?_ | refine GC.seq ?_ | refine GC.region ?_ | refine GC.exit ?_ | refine GE.then_normal ?_ | refine GE.then_exit ?_ | refine GE.block_hit ?_ | refine GE.block_miss rfl ?_ | refine GC.cond_yes rfl (by first | assumption | omega) ?_)
    refine GC.regionYk 2 rfl rfl ?_
    repeat (first | (apply G.ex (hd := rfl); case h => (first | exact Ex.move rfl | exact Ex.loadB rfl rfl)) | refine G.nil ?_)
    refine GE.yield hYk rfl rfl rfl (Takes.cons .here (Takes.deep (Takes.deep (Takes.deep Takes.app)))) ?_
    rintro v_ give_ (⟨rfl, g, ⟨j, hj, rfl⟩, rfl⟩ | ⟨rfl, g, ⟨j, hj, rfl⟩, rfl⟩) rs_ hrs_
    · simp only [List.cons_append, List.nil_append] at hrs_
      subst hrs_
      refine GE.on rfl ?_
      repeat (first | refine G.nil ?_)
      refine GE.nrm ?_
      rw [hk1] at hj
      refine GE.ret (by first | exact .inl rfl | exact .inr rfl) (res0 Tryd.results32) (.inl ⟨_, ⟨j, hj, rfl⟩, rfl⟩) (Takes.cons .here Takes.app) (.skip (.skip (.skip .refl)))
    · simp only [List.cons_append, List.nil_append] at hrs_
      subst hrs_
      refine GE.on rfl ?_
      repeat (first | refine G.nil ?_)
      refine GE.nrm ?_
      refine GE.ret (by first | exact .inl rfl | exact .inr rfl) (res0 Tryd.results32) (.inr ⟨_, ⟨j, hj, rfl⟩, rfl⟩) (Takes.cons .here Takes.app) (.skip (.skip (.skip .refl)))
  · obtain ⟨j, hj⟩ : ∃ j : Nat, Lib.indexByte d 47 = (j : Int) := ⟨(Lib.indexByte d 47).toNat, by omega⟩
    obtain ⟨hjl, hsd⟩ := split_some d j hj
    rw [hsd] at hget he
    have hgd : (splitF s).getD k [] = d.take j := hget
    have he2 : (splitF s).drop (k + 1) = splitF (d.drop (j + 1)) := by
      have := congrArg List.tail he
      rwa [List.tail_drop] at this
    have hk1 : k + 1 < (splitF s).length := by
      have := congrArg List.length he2
      rw [List.length_drop] at this
      have h2 := List.length_pos_iff.2 (splitF_ne (d.drop (j + 1)))
      omega
    have hYk := hY k i hk hi
    rw [hgd] at hYk
    rw [hj] at h1 ⊢
    repeat ((fail_if_success (refine GC.region (id := 7) ?_)); first | (apply G.ex (hd := rfl); case h => (first | exact Ex.move rfl | exact Ex.lss rfl rfl | exact Ex.assign rfl)) | refine G.nil ?_ | refine GC.seq ?_ | refine GC.region ?_ | refine GC.skip ?_ | refine GE.then_normal ?_ | refine GC.cond_no rfl (by first | assumption | omega) ?_)
    refine GC.region ?_
    iterate 4 (first | (apply G.ex (hd := rfl); case h => (first | exact Ex.move rfl | exact Ex.loadB rfl rfl | exact Ex.add rfl rfl (by omega))))
    rw [Int.add_zero]
    repeat ((fail_if_success (refine GC.region (id := 8) ?_)); first | (apply G.ex (hd := rfl); case h => (first | exact Ex.subHi rfl rfl (by omega) | exact Ex.assign rfl)) | refine G.nil ?_ | refine GC.seq ?_ | refine GE.then_normal ?_)
    refine GC.regionYk 2 rfl rfl ?_
    repeat (first | (apply G.ex (hd := rfl); case h => (first | exact Ex.move rfl)) | refine G.nil ?_)
    refine GE.yield hYk rfl rfl rfl (Takes.cons .here (Takes.deep (Takes.deep (Takes.deep Takes.app)))) ?_
    rintro v_ give_ (⟨rfl, g, ⟨j2, hj2, rfl⟩, rfl⟩ | ⟨rfl, g, ⟨j2, hj2, rfl⟩, rfl⟩) rs_ hrs_
    · simp only [List.cons_append, List.nil_append] at hrs_
      subst hrs_
      refine GE.on rfl ?_
      have htt : ¬ ¬ true = true := fun h => h rfl
      repeat (first | (apply G.ex (hd := rfl); case h => (first | exact Ex.notB rfl)) | refine G.nil ?_)
      refine GE.nrm ?_
      repeat ((fail_if_success (refine GC.region (id := 9) ?_)); first | refine GC.skip ?_ | refine GE.then_normal ?_ | refine GC.cond_no rfl (by first | assumption | omega) ?_)
      refine GC.conv (rs' := _) (fun w_ H_ => H_.take (need := [.own (LoopR yl rec_), .blk pb 9 [.string (sOf [47])], .blk sb 9 [.string (sOf d)], .blk kb 3 [.int .i64 0]]) (.cons .here (.cons .mid (.cons .mid (.cons .mid .nil))))) ?_
      simp only [List.append_eq, List.cons_append, List.nil_append]
      refine GC.region ?_
      iterate 4 (first | (apply G.ex (hd := rfl); case h => (first | exact Ex.move rfl | exact Ex.lenO rfl | exact Ex.loadB rfl rfl)))
      refine G.ex (Ex.add rfl rfl (by simp; omega)) rfl ?_
      rw [show (j : Int) + ((([47] : List UInt8).length : Nat) : Int) = ((j + 1 : Nat) : Int) by simp]
      refine G.ex (Ex.subLo (l := d) (a := j + 1) rfl rfl (by omega)) rfl ?_
      repeat (first | refine G.storeB rfl rfl rfl rfl rfl ?_ | refine G.nil ?_ | refine GE.block_normal ?_)
      refine GE.loop (k + 1, d.drop (j + 1), j2) ⟨hk1, he2, by simp only [List.length_drop]; omega, hj2⟩ (by simp only; omega) (by simp only [fits]; repeat (first | exact trivial | refine And.intro rfl ?_)) (Takes.cons .here (.cons .here (.cons .here (.cons .here Takes.app)))) .refl
    · simp only [List.cons_append, List.nil_append] at hrs_
      subst hrs_
      refine GE.on rfl ?_
      have hff : ¬ false = true := fun h => nomatch h
      repeat (first | (apply G.ex (hd := rfl); case h => (first | exact Ex.notB rfl)) | refine G.nil ?_)
      refine GE.nrm ?_
      repeat (first | refine GC.ret ?_ | refine GE.then_normal ?_ | refine GE.then_ret ?_ | refine GE.block_ret ?_ | refine GC.cond_yes rfl (by first | assumption | omega) ?_)
      refine GE.ret (by first | exact .inl rfl | exact .inr rfl) (res0 Tryd.results32) (.inr ⟨_, ⟨j2, hj2, rfl⟩, rfl⟩) (Takes.cons .here Takes.app) (.skip (.skip (.skip .refl)))
end path
end Go.Proofs.YtjfdpfjngajnlaaDoor
