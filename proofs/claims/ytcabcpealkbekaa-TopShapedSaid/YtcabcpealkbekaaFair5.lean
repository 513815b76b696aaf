/-
  CONTRACT of fair.Play, by the kit.
-/
import Derived.Test.YtcabcpealkbekaaFair4
import Derived.Test.YtcabcpealkbekaaCom
namespace Go.Proofs.Ytcabcpealkbekaa
open Go.RowKit
attribute [local irreducible] Ex G GC GE Gq FPost LPost
set_option linter.unusedVariables false
set_option linter.unusedSimpArgs false

theorem indexNone_sp (F : FuncId) [Fun Try.prog F] (caps : List Value) (ao : Option Addr) (n c : Nat) (l : List Int) (hl : l.length = n) (hn : n ≤ 1000000) (hF : ∀ z ∈ l, Spec Try.prog F (.int .i64 z :: caps) [] fun v give => v = .bool false ∧ give = []) :
    Spec Try.prog 55 [.slice ao n c, .func (.func F) #[] caps.toArray] [.sl ao n c 1 (flat (eI .i64) l)] fun v give => v = .int .i64 (-1) ∧ give = [.sl ao n c 1 (flat (eI .i64) l)] := by
  refine Spec.intro Try.func55 rfl Try.ntmps55 rfl fun w0 rest rs_ hrs_ => ?_
  simp only [List.cons_append, List.nil_append] at hrs_
  subst hrs_
  repeat (first | (apply G.ex (hd := rfl); case h => (first | exact Ex.move rfl | exact Ex.lenSl rfl | exact Ex.assign rfl)) | refine G.nil ?_ | refine GC.seq ?_ | refine GC.region ?_ | refine GC.block ?_ | refine GE.then_normal ?_)
  refine GC.loop (ι := Nat) (fun k => k ≤ n) (fun k => n - k) (fun k => [(0, .slice ao n c), (1, .func (.func F) #[] caps.toArray), (7, .int .i64 (n : Int)), (8, .int .i64 (k : Int))]) (fun k => [.sl ao n c 1 (flat (eI .i64) l)]) 0 (Nat.zero_le _) (by simp only [fits]; repeat (first | exact trivial | refine And.intro rfl ?_)) (by repeat (first | exact Takes.nil | apply Takes.dup rfl | apply Takes.cons | exact Take1.here | apply Take1.there)) ?_
  rintro k hk fr_ rs_ hfr_ hrs_
  simp only [List.cons_append, List.nil_append] at hfr_ hrs_
  subst hfr_ hrs_
  repeat (first | (apply G.ex (hd := rfl); case h => (first | exact Ex.lss rfl rfl)) | refine G.nil ?_ | refine GC.seq ?_ | refine GC.region ?_ | refine GE.then_normal ?_)
  refine GC.cond_dec rfl (fun hlt => ?_) (fun hlt => ?_)
  · have hlt : k < n := by omega
    have hm : l.getD k default ∈ l := by rw [List.getD_eq_getElem?_getD, List.getElem?_eq_getElem (by omega)]; exact List.getElem_mem _
    repeat (first | (apply G.ex (hd := rfl); case h => (first | exact Ex.move rfl | exact Ex.indexN rfl rfl (by first | omega | (simp; done) | (simp; omega)) | exact Ex.loadT0 rfl (by first | omega | (simp; done) | (simp; omega)) rfl | exact Ex.assign rfl)) | refine G.nil ?_ | refine GC.seq ?_ | refine GC.region ?_ | refine GC.block ?_ | refine GC.skip ?_ | refine GE.then_normal ?_)
    first | refine G.call (hF _ hm) rfl rfl rfl rfl (by repeat (first | exact Takes.nil | apply Takes.dup rfl | apply Takes.cons | exact Take1.here | apply Take1.there)) ?_ | refine G.callU (hF _ hm) rfl rfl rfl (by repeat (first | exact Takes.nil | apply Takes.dup rfl | apply Takes.cons | exact Take1.here | apply Take1.there)) ?_
    rintro v_ give_ ⟨rfl, rfl⟩ rs_ hrs_
    simp only [List.cons_append, List.nil_append] at hrs_
    subst hrs_
    repeat (first | (apply G.ex (hd := rfl); case h => (first | exact Ex.move rfl | exact Ex.add rfl rfl (by omega))) | refine G.nil ?_ | refine GC.region ?_ | refine GC.skip ?_ | refine GE.then_normal ?_ | refine GE.block_normal ?_ | refine GC.cond_f rfl ?_)
    refine GE.loop (k + 1) (by omega) (by omega) (by simp only [fits]; repeat (first | exact trivial | refine And.intro rfl ?_)) (by repeat (first | exact Takes.nil | apply Takes.dup rfl | apply Takes.cons | exact Take1.here | apply Take1.there)) (by repeat (first | exact Subs.refl | refine Subs.skip ?_))
  · repeat (first | (apply G.ex (hd := rfl); case h => (first | exact Ex.assign rfl)) | refine G.nil ?_ | refine GC.seq ?_ | refine GC.region ?_ | refine GC.ret ?_ | refine GC.exit ?_ | refine GE.then_normal ?_ | refine GE.then_exit ?_ | refine GE.block_hit ?_)
    refine GE.ret (by first | exact .inl rfl | exact .inr rfl) (by first | exact res0 Try.results55 | exact res1 Try.results55 rfl | exact res2 Try.results55 rfl rfl | exact resR1 Try.results55 (by first | exact RV.tmp rfl | exact RV.cell rfl rfl | exact RV.cell1 rfl) | exact resR2 Try.results55 (by first | exact RV.tmp rfl | exact RV.cell rfl rfl | exact RV.cell1 rfl) (by first | exact RV.tmp rfl | exact RV.cell rfl rfl | exact RV.cell1 rfl) | exact resR3 Try.results55 (by first | exact RV.tmp rfl | exact RV.cell rfl rfl | exact RV.cell1 rfl) (by first | exact RV.tmp rfl | exact RV.cell rfl rfl | exact RV.cell1 rfl) (by first | exact RV.tmp rfl | exact RV.cell rfl rfl | exact RV.cell1 rfl)) ⟨rfl, rfl⟩ (by repeat (first | exact Takes.nil | apply Takes.dup rfl | apply Takes.cons | exact Take1.here | apply Take1.there)) (by repeat (first | exact Subs.refl | refine Subs.skip ?_))
theorem containsNone_sp (F : FuncId) [Fun Try.prog F] (caps : List Value) (ao : Option Addr) (n c : Nat) (l : List Int) (hl : l.length = n) (hn : n ≤ 1000000) (hF : ∀ z ∈ l, Spec Try.prog F (.int .i64 z :: caps) [] fun v give => v = .bool false ∧ give = []) :
    Spec Try.prog 42 [.slice ao n c, .func (.func F) #[] caps.toArray] [.sl ao n c 1 (flat (eI .i64) l)] fun v give => v = .bool false ∧ give = [.sl ao n c 1 (flat (eI .i64) l)] := by
  refine Spec.intro Try.func42 rfl Try.ntmps42 rfl fun w0 rest rs_ hrs_ => ?_
  simp only [List.cons_append, List.nil_append] at hrs_
  subst hrs_
  repeat (first | (apply G.ex (hd := rfl); case h => (first | exact Ex.move rfl | exact Ex.assign rfl)) | refine G.nil ?_ | refine GC.seq ?_ | refine GC.region ?_ | refine GE.then_normal ?_)
  first | refine G.call (indexNone_sp F caps ao n c l hl hn hF) rfl rfl rfl rfl (by repeat (first | exact Takes.nil | apply Takes.dup rfl | apply Takes.cons | exact Take1.here | apply Take1.there)) ?_ | refine G.callU (indexNone_sp F caps ao n c l hl hn hF) rfl rfl rfl (by repeat (first | exact Takes.nil | apply Takes.dup rfl | apply Takes.cons | exact Take1.here | apply Take1.there)) ?_
  rintro v_ give_ ⟨rfl, rfl⟩ rs_ hrs_
  simp only [List.cons_append, List.nil_append] at hrs_
  subst hrs_
  repeat (first | (apply G.ex (hd := rfl); case h => (first | exact Ex.geq rfl rfl | exact Ex.assign rfl)) | refine G.nil ?_ | refine GC.ret ?_ | refine GE.then_normal ?_)
  refine GE.ret (by first | exact .inl rfl | exact .inr rfl) (by first | exact res0 Try.results42 | exact res1 Try.results42 rfl | exact res2 Try.results42 rfl rfl | exact resR1 Try.results42 (by first | exact RV.tmp rfl | exact RV.cell rfl rfl | exact RV.cell1 rfl) | exact resR2 Try.results42 (by first | exact RV.tmp rfl | exact RV.cell rfl rfl | exact RV.cell1 rfl) (by first | exact RV.tmp rfl | exact RV.cell rfl rfl | exact RV.cell1 rfl) | exact resR3 Try.results42 (by first | exact RV.tmp rfl | exact RV.cell rfl rfl | exact RV.cell1 rfl) (by first | exact RV.tmp rfl | exact RV.cell rfl rfl | exact RV.cell1 rfl) (by first | exact RV.tmp rfl | exact RV.cell rfl rfl | exact RV.cell1 rfl)) ⟨rfl, rfl⟩ (by repeat (first | exact Takes.nil | apply Takes.dup rfl | apply Takes.cons | exact Take1.here | apply Take1.there)) (by repeat (first | exact Subs.refl | refine Subs.skip ?_))
namespace fair
theorem sends_none_sp (rb : Nat) (u : Value) (to_ : Option Addr) (tc : Nat) (h1 : u.oneCell' = true) : Spec Try.prog 46 [.pointer (some (badr rb 0))] [.blk rb 105 [u, .slice to_ 0 tc]] fun v give => v = .agg (eV 7 0 0).toArray ∧ give = [.blk rb 105 [u, .slice to_ 0 tc]] := by
  refine Spec.intro Try.func46 rfl Try.ntmps46 rfl fun w0 rest rs_ hrs_ => ?_
  simp only [List.cons_append, List.nil_append] at hrs_
  subst hrs_
  repeat (first | refine GC.seq ?_ | refine GC.region ?_)
  refine G.alloc rfl (fun r => ?_)
  repeat (first | (apply G.ex (hd := rfl); case h => (first | exact Ex.move rfl | exact Ex.nilCheck rfl | exact Ex.fieldB rfl | exact Ex.loadB rfl rfl | exact Ex.eqI rfl rfl | exact Ex.lenSl rfl)) | refine G.nil ?_ | refine GC.seq ?_ | refine GC.region ?_ | refine GE.then_normal ?_ | refine GC.cond_yes rfl (by first | assumption | omega) ?_)
  first | refine G.call (caps := []) (no_sp 7) rfl rfl rfl rfl (by repeat (first | exact Takes.nil | apply Takes.dup rfl | apply Takes.cons | exact Take1.here | apply Take1.there)) ?_ | refine G.callU (caps := []) (no_sp 7) rfl rfl rfl (by repeat (first | exact Takes.nil | apply Takes.dup rfl | apply Takes.cons | exact Take1.here | apply Take1.there)) ?_
  rintro v_ give_ ⟨rfl, rfl⟩ rs_ hrs_
  simp only [List.cons_append, List.nil_append] at hrs_
  subst hrs_
  repeat (first | refine G.storeBA rfl rfl rfl rfl rfl ?_ | refine G.nil ?_ | refine GC.ret ?_ | refine GE.then_normal ?_ | refine GE.then_ret ?_)
  refine GE.ret (by first | exact .inl rfl | exact .inr rfl) (by first | exact res0 Try.results46 | exact res1 Try.results46 rfl | exact res2 Try.results46 rfl rfl | exact resR1 Try.results46 (by first | exact RV.tmp rfl | exact RV.cell rfl rfl | exact RV.cell1 rfl) | exact resR2 Try.results46 (by first | exact RV.tmp rfl | exact RV.cell rfl rfl | exact RV.cell1 rfl) (by first | exact RV.tmp rfl | exact RV.cell rfl rfl | exact RV.cell1 rfl) | exact resR3 Try.results46 (by first | exact RV.tmp rfl | exact RV.cell rfl rfl | exact RV.cell1 rfl) (by first | exact RV.tmp rfl | exact RV.cell rfl rfl | exact RV.cell1 rfl) (by first | exact RV.tmp rfl | exact RV.cell rfl rfl | exact RV.cell1 rfl)) ⟨rfl, rfl⟩ (by repeat (first | exact Takes.nil | apply Takes.dup rfl | apply Takes.cons | exact Take1.here | apply Take1.there)) (by repeat (first | exact Subs.refl | refine Subs.skip ?_))
theorem play1_sp (z : Int) (hz : 1 ≤ z ∧ z ≤ 1500) : Spec Try.prog 43 [.int .i64 z] [] fun v give => v = .bool false ∧ give = [] := by
  refine Spec.intro Try.func43 rfl Try.ntmps43 rfl fun w0 rest rs_ hrs_ => ?_
  simp only [List.cons_append, List.nil_append] at hrs_
  subst hrs_
  repeat (first | (apply G.ex (hd := rfl); case h => (first | exact Ex.move rfl | exact Ex.lss rfl rfl | exact Ex.gtr rfl rfl | exact Ex.assign rfl | exact Ex.pickF rfl (by first | assumption | omega) rfl)) | refine G.g_ff rfl rfl (by first | assumption | omega) ?_ | refine G.nil ?_ | refine GC.seq ?_ | refine GC.region ?_ | refine GC.ret ?_ | refine GE.then_normal ?_)
  refine GE.ret (by first | exact .inl rfl | exact .inr rfl) (by first | exact res0 Try.results43 | exact res1 Try.results43 rfl | exact res2 Try.results43 rfl rfl | exact resR1 Try.results43 (by first | exact RV.tmp rfl | exact RV.cell rfl rfl | exact RV.cell1 rfl) | exact resR2 Try.results43 (by first | exact RV.tmp rfl | exact RV.cell rfl rfl | exact RV.cell1 rfl) (by first | exact RV.tmp rfl | exact RV.cell rfl rfl | exact RV.cell1 rfl) | exact resR3 Try.results43 (by first | exact RV.tmp rfl | exact RV.cell rfl rfl | exact RV.cell1 rfl) (by first | exact RV.tmp rfl | exact RV.cell rfl rfl | exact RV.cell1 rfl) (by first | exact RV.tmp rfl | exact RV.cell rfl rfl | exact RV.cell1 rfl)) ⟨by rw [decide_eq_false (by omega)], rfl⟩ (by repeat (first | exact Takes.nil | apply Takes.dup rfl | apply Takes.cons | exact Take1.here | apply Take1.there)) (by repeat (first | exact Subs.refl | refine Subs.skip ?_))
def eFd (f : Nat × Int) : List Value := [.int .i64 (f.1 : Int), .int .i64 f.2]
instance : Enc eFd 2 := ⟨fun _ => rfl, fun x u hu => by simp [eFd] at hu; rcases hu with rfl | rfl <;> rfl⟩
def eO (o : Int × Nat × Int) : List Value := eV o.1 (o.2.1 : Int) o.2.2
instance : Enc eO 3 := ⟨fun _ => rfl, fun x u hu => by simp [eO, eV] at hu; rcases hu with rfl | rfl | rfl <;> rfl⟩
def mkF (q : Int) : Fl := ⟨q, ⟨none, 0, 0, []⟩, 0, false⟩
theorem starFresh {w0 w : World} {rs : List Res} (H : Holds w0 w rs) : ∀ Q : List Int, Holds w0 w (.own (Star (wvs (Q.map mkF))) :: rs)
  | [] => H.starNil
  | q :: Q => ((starFresh H Q).nilvec 3 1).starIn
theorem fresh_eq (Q : List Int) : ((Q.map mkF).map ab, ([] : List Nat)) = fresh Q := by
  unfold fresh; rw [List.map_map]; rfl
theorem fresh_fits (Q : List Int) : Fits (Q.map mkF) := ⟨fun x hx => by
  obtain ⟨q, _, rfl⟩ := List.mem_map.1 hx; rfl⟩
theorem map_snoc {α β : Type} [Inhabited α] (f : α → β) (l : List α) (k : Nat) (h : k < l.length) : (l.take k).map f ++ [f (l.getD k default)] = (l.take (k + 1)).map f := by
  rw [List.take_succ_eq_append_getElem h, List.map_append, List.getD_eq_getElem?_getD, List.getElem?_eq_getElem h]; rfl
set_option maxHeartbeats 4000000 in
set_option maxRecDepth 100000 in
theorem play_sp (qa : Option Addr) (qc : Nat) (Q : List Int) (hQ0 : 0 < Q.length) (hQ6 : Q.length ≤ 6) (hQ : ∀ q ∈ Q, 1 ≤ q ∧ q ≤ 1500) (la : Option Addr) (lc : Nat) (L : List (Nat × Int)) (hL : L.length ≤ 300) (hL2 : ∀ f ∈ L, f.1 < Q.length ∧ 0 ≤ f.2 ∧ f.2 ≤ 1500) :
    Spec Try.prog 28 [.slice qa Q.length qc, .slice la L.length lc] [.sl qa Q.length qc 1 (flat (eI .i64) Q), .sl la L.length lc 2 (flat eFd L)]
      fun v give => ∃ oa oc os s, Plays (fresh Q) L os s ∧ os.length = L.length ∧ v = .tuple #[.slice oa L.length oc, .int .i64 0] ∧ give = [.vec 59 3 oa L.length oc (flat eO os)] := by
  refine Spec.intro Try.func28 rfl Try.ntmps28 rfl fun w0 rest rs_ hrs_ => ?_
  simp only [List.cons_append, List.nil_append] at hrs_
  subst hrs_
  repeat (first | (apply G.ex (hd := rfl); case h => (first | exact Ex.move rfl | exact Ex.lss rfl rfl | exact Ex.gtr rfl rfl | exact Ex.lenSl rfl | exact Ex.assign rfl | exact Ex.pickF rfl (by first | assumption | omega) rfl)) | refine G.g_ff rfl rfl (by first | assumption | omega) ?_ | refine G.nil ?_ | refine GC.seq ?_ | refine GC.region ?_ | refine GC.skip ?_ | refine GE.then_normal ?_ | refine GC.cond_no rfl (by first | assumption | omega) ?_)
  first | refine G.call (containsNone_sp 43 [] qa Q.length qc Q rfl (by omega) (fun z hz => play1_sp z (hQ z hz))) rfl rfl rfl rfl (by repeat (first | exact Takes.nil | apply Takes.dup rfl | apply Takes.cons | exact Take1.here | apply Take1.there)) ?_ | refine G.callU (containsNone_sp 43 [] qa Q.length qc Q rfl (by omega) (fun z hz => play1_sp z (hQ z hz))) rfl rfl rfl (by repeat (first | exact Takes.nil | apply Takes.dup rfl | apply Takes.cons | exact Take1.here | apply Take1.there)) ?_
  rintro v_ give_ ⟨rfl, rfl⟩ rs_ hrs_
  simp only [List.cons_append, List.nil_append] at hrs_
  subst hrs_
  repeat (first | (apply G.ex (hd := rfl); case h => (first | exact Ex.build rfl rfl)) | refine G.nil ?_ | refine GC.seq ?_ | refine GC.region ?_ | refine GC.skip ?_ | refine GE.then_normal ?_ | refine GC.cond_f rfl ?_)
  refine G.box rfl rfl rfl (fun rb => ?_)
  first | refine G.nilvec 107 4 ?_ | refine GC.nilvec 107 4 ?_
  repeat (first | (apply G.ex (hd := rfl); case h => (first | exact Ex.move rfl | exact Ex.lenSl rfl | exact Ex.assign rfl)) | refine G.nil ?_ | refine GC.seq ?_ | refine GC.region ?_ | refine GC.block ?_ | refine GE.then_normal ?_)
  refine GC.loop (ι := Nat × Option Addr × Nat) (fun x => x.1 ≤ Q.length) (fun x => Q.length - x.1) (fun x => [(1, .slice la L.length lc), (6, .pointer (some (badr rb 0))), (29, .slice qa Q.length qc), (30, .int .i64 (Q.length : Int)), (31, .int .i64 (x.1 : Int))]) (fun x => [.blk rb 105 [.slice x.2.1 x.1 x.2.2, .slice none 0 0], .vec 107 4 x.2.1 x.1 x.2.2 (flat eF ((Q.take x.1).map mkF)), .sl qa Q.length qc 1 (flat (eI .i64) Q), .sl la L.length lc 2 (flat eFd L)]) (0, none, 0) (Nat.zero_le _) (by simp only [fits]; repeat (first | exact trivial | refine And.intro rfl ?_)) (by repeat (first | exact Takes.nil | apply Takes.dup rfl | apply Takes.cons | exact Take1.here | apply Take1.there)) ?_
  rintro ⟨k, fo, fc⟩ hk fr_ rs_ hfr_ hrs_
  simp only [List.cons_append, List.nil_append] at hfr_ hrs_
  subst hfr_ hrs_
  repeat (first | (apply G.ex (hd := rfl); case h => (first | exact Ex.lss rfl rfl)) | refine G.nil ?_ | refine GC.seq ?_ | refine GC.region ?_ | refine GE.then_normal ?_)
  refine GC.cond_dec rfl (fun hlt => ?_) (fun hlt => ?_)
  · have hlt : k < Q.length := by omega
    repeat (first | (apply G.ex (hd := rfl); case h => (first | exact Ex.move rfl | exact Ex.nilCheck rfl | exact Ex.fieldB rfl | exact Ex.loadB rfl rfl | exact Ex.indexN rfl rfl (by first | omega | (simp; done) | (simp; omega)) | exact Ex.loadT0 rfl (by first | omega | (simp; done) | (simp; omega)) rfl | exact Ex.assign rfl | exact Ex.build rfl rfl)) | refine G.nil ?_ | refine GC.seq ?_ | refine GC.region ?_ | refine GC.block ?_ | refine GC.skip ?_ | refine GE.then_normal ?_)
    refine G.lit rfl (by rfl) (by rfl) (by rfl) (by rfl) (by rfl) (by rfl) rfl (fun y => ?_)
    repeat (first | fail)
    have hcat : flat eF ((Q.take k).map mkF) ++ flat eF [mkF (Q.getD k default)] = flat eF ((Q.take (k + 1)).map mkF) := by rw [← flat_append, map_snoc mkF Q k hlt]
    refine G.app rfl rfl (by rfl) (by omega) rfl (hcat) (fun f2 c2 rs_ hrs_ => ?_)
    try simp only at hrs_
    subst hrs_
    repeat (first | refine G.storeB rfl rfl rfl rfl rfl ?_ | (apply G.ex (hd := rfl); case h => (first | exact Ex.move rfl | exact Ex.nilCheck rfl | exact Ex.fieldB rfl | exact Ex.add rfl rfl (by omega))) | refine G.nil ?_ | refine GC.region ?_ | refine GE.then_normal ?_ | refine GE.block_normal ?_)
    refine GE.loop (k + 1, f2, c2) (by simp only; omega) (by simp only; omega) (by simp only [fits]; repeat (first | exact trivial | refine And.intro rfl ?_)) (by repeat (first | exact Takes.nil | apply Takes.dup rfl | apply Takes.cons | exact Take1.here | apply Take1.there)) (by repeat (first | exact Subs.refl | refine Subs.skip ?_))
  · have hkq : k = Q.length := by simp only at hk; omega
    subst hkq
    rw [List.take_length]
    first | refine G.nilvec 3 1 ?_ | refine GC.nilvec 3 1 ?_
    refine GC.conv (fun w_ H_ => starFresh H_ Q) ?_
    first | refine G.nilvec 59 3 ?_ | refine GC.nilvec 59 3 ?_
    repeat (first | (apply G.ex (hd := rfl); case h => (first | exact Ex.move rfl | exact Ex.lenSl rfl | exact Ex.assign rfl)) | refine G.nil ?_ | refine GC.seq ?_ | refine GC.region ?_ | refine GC.block ?_ | refine GC.exit ?_ | refine GE.then_normal ?_ | refine GE.then_exit ?_ | refine GE.block_hit ?_)
    have hw0 := fresh_wf hQ6 hQ
    refine GC.loop (ι := Nat × (Option Addr × Nat) × (Option Addr × Nat) × List Fl × List Nat × List (Int × Nat × Int)) (fun x => x.1 ≤ L.length ∧ x.2.2.2.1.length = Q.length ∧ Fits x.2.2.2.1 ∧ Wf (x.2.2.2.1.map ab, x.2.2.2.2.1) ∧ Plays (fresh Q) (L.take x.1) x.2.2.2.2.2 (x.2.2.2.1.map ab, x.2.2.2.2.1)) (fun x => L.length - x.1) (fun x => [(6, .pointer (some (badr rb 0))), (9, .slice x.2.1.1 x.1 x.2.1.2), (47, .slice la L.length lc), (48, .int .i64 (L.length : Int)), (49, .int .i64 (x.1 : Int))]) (fun x => [.blk rb 105 [.slice fo Q.length fc, .slice x.2.2.1.1 x.2.2.2.2.1.length x.2.2.1.2], .vec 107 4 fo Q.length fc (flat eF x.2.2.2.1), .vec 3 1 x.2.2.1.1 x.2.2.2.2.1.length x.2.2.1.2 (flat eN x.2.2.2.2.1), .own (Star (wvs x.2.2.2.1)), .vec 59 3 x.2.1.1 x.1 x.2.1.2 (flat eO x.2.2.2.2.2), .sl la L.length lc 2 (flat eFd L)]) (0, (none, 0), (none, 0), Q.map mkF, [], []) ⟨Nat.zero_le _, by simp, fresh_fits Q, by rw [fresh_eq]; exact hw0, by simp only [fresh_eq, List.take_zero]; exact Plays.nil _⟩ (by simp only [fits]; repeat (first | exact trivial | refine And.intro rfl ?_)) (by repeat (first | exact Takes.nil | apply Takes.dup rfl | apply Takes.cons | exact Take1.here | apply Take1.there)) ?_
    rintro ⟨k, ⟨oa, oc⟩, ⟨to_, tc⟩, fs, T, os⟩ ⟨hk_, hl_, hf_, hw_, hp_⟩ fr_ rs_ hfr_ hrs_
    simp only [List.cons_append, List.nil_append] at hfr_ hrs_
    subst hfr_ hrs_
    obtain ⟨hkl, hl, hf, hw, hp⟩ : k ≤ L.length ∧ fs.length = Q.length ∧ Fits fs ∧ Wf (fs.map ab, T) ∧ Plays (fresh Q) (L.take k) os (fs.map ab, T) := ⟨hk_, hl_, hf_, hw_, hp_⟩
    clear hk_ hl_ hf_ hw_ hp_
    have hos : os.length = k := by rw [hp.len, List.length_take]; omega
    repeat (first | (apply G.ex (hd := rfl); case h => (first | exact Ex.lss rfl rfl)) | refine G.nil ?_ | refine GC.seq ?_ | refine GC.region ?_ | refine GE.then_normal ?_)
    refine GC.cond_dec rfl (fun hlt2 => ?_) (fun hlt2 => ?_)
    · have hlt2 : k < L.length := by omega
      have hm : L.getD k default ∈ L := by rw [List.getD_eq_getElem?_getD, List.getElem?_eq_getElem (by omega)]; exact List.getElem_mem _
      have hLk := hL2 _ hm
      have htk : L.take (k + 1) = L.take k ++ [L.getD k default] := by rw [List.take_succ_eq_append_getElem hlt2, List.getD_eq_getElem?_getD, List.getElem?_eq_getElem hlt2]; rfl
      repeat (first | (apply G.ex (hd := rfl); case h => (first | exact Ex.indexN rfl rfl (by first | omega | (simp; done) | (simp; omega)) | exact Ex.loadTA rfl (by first | omega | (simp; done) | (simp; omega)))) | refine GC.seq ?_ | refine GC.region ?_ | refine GC.block ?_ | refine GC.skip ?_ | refine GE.then_normal ?_)
      refine G.alloc rfl (fun fb => ?_)
      repeat (first | refine G.storeBA rfl rfl rfl rfl rfl ?_ | (apply G.ex (hd := rfl); case h => (first | exact Ex.fieldB rfl | exact Ex.loadB rfl rfl | exact Ex.gtr rfl rfl | exact Ex.assign rfl)) | refine G.nil ?_ | refine GC.seq ?_ | refine GC.region ?_ | refine GC.block ?_ | refine GE.then_normal ?_)
      generalize hF : L.getD k default = F at *
      obtain ⟨i, z⟩ := F
      simp only at hLk
      by_cases hz : 1 ≤ z
      · repeat (first | (apply G.ex (hd := rfl); case h => (first | exact Ex.move rfl | exact Ex.loadBA rfl rfl rfl)) | refine GC.region ?_ | refine GC.cond_yes rfl (by first | assumption | omega) ?_)
        have S := comes_sp rb fo fc to_ tc fs T hf hw i (by omega) z ⟨hz, hLk.2.2⟩
        rw [hl] at S
        first | refine G.call (caps := []) (S) rfl rfl rfl rfl (by repeat (first | exact Takes.nil | apply Takes.dup rfl | apply Takes.cons | exact Take1.here | apply Take1.there)) ?_ | refine G.callU (caps := []) (S) rfl rfl rfl (by repeat (first | exact Takes.nil | apply Takes.dup rfl | apply Takes.cons | exact Take1.here | apply Take1.there)) ?_
        rintro v_ give_ ⟨to2, tc2, fs2, T2, rfl, hf2, he2, hl2, rfl⟩ rs_ hrs_
        simp only [List.cons_append, List.nil_append] at hrs_
        subst hrs_
        rw [hl2]
        repeat (first | fail)
        refine G.lit rfl (by rfl) (by rfl) (by rfl) (by rfl) (by rfl) (by rfl) rfl (fun y2 => ?_)
        repeat (first | fail)
        have hcat : flat eO os ++ flat eO [((comes (fs.map ab, T) i z).2, 0, 0)] = flat eO (os ++ [((comes (fs.map ab, T) i z).2, 0, 0)]) := (flat_append ..).symm
        refine G.app rfl rfl (by rfl) (by omega) rfl (hcat) (fun o2 c2 rs_ hrs_ => ?_)
        try simp only at hrs_
        subst hrs_
        repeat (first | (apply G.ex (hd := rfl); case h => (first | exact Ex.move rfl | exact Ex.add rfl rfl (by omega) | exact Ex.assign rfl)) | refine G.nil ?_ | refine GC.region ?_ | refine GE.then_normal ?_ | refine GE.block_normal ?_)
        have hst := Step.comes (fs.map ab, T) i z hz
        have hwf := comes_wf hw (i := i) (z := z) (by simp only [List.length_map]; omega) ⟨hz, hLk.2.2⟩
        rw [← he2] at hst hwf
        refine GE.loop (k + 1, (o2, c2), (to2, tc2), fs2, T2, os ++ [((comes (fs.map ab, T) i z).2, 0, 0)]) ⟨by simp only; omega, by simp only; omega, hf2, hwf, (by simp only; rw [htk]; exact hp.snoc hst)⟩ (by simp only; omega) (by simp only [fits]; repeat (first | exact trivial | refine And.intro rfl ?_)) (by repeat (first | exact Takes.nil | apply Takes.dup rfl | apply Takes.cons | exact Take1.here | apply Take1.there)) (by repeat (first | exact Subs.refl | refine Subs.skip ?_))
      · have hz0 : z = 0 := by omega
        subst hz0
        cases T with
        | nil =>
          repeat (first | (apply G.ex (hd := rfl); case h => (first | exact Ex.move rfl | exact Ex.fieldB rfl | exact Ex.loadB rfl rfl | exact Ex.lss rfl rfl | exact Ex.assign rfl)) | refine G.nil ?_ | refine GC.seq ?_ | refine GC.region ?_ | refine GE.then_normal ?_ | refine GC.cond_no rfl (by first | assumption | omega) ?_)
          first | refine G.call (caps := []) (sends_none_sp rb (.slice fo Q.length fc) to_ tc rfl) rfl rfl rfl rfl (by repeat (first | exact Takes.nil | apply Takes.dup rfl | apply Takes.cons | exact Take1.here | apply Take1.there)) ?_ | refine G.callU (caps := []) (sends_none_sp rb (.slice fo Q.length fc) to_ tc rfl) rfl rfl rfl (by repeat (first | exact Takes.nil | apply Takes.dup rfl | apply Takes.cons | exact Take1.here | apply Take1.there)) ?_
          rintro v_ give_ ⟨rfl, rfl⟩ rs_ hrs_
          simp only [List.cons_append, List.nil_append] at hrs_
          subst hrs_
          repeat (first | fail)
          refine G.lit rfl (by rfl) (by rfl) (by rfl) (by rfl) (by rfl) (by rfl) rfl (fun y2 => ?_)
          repeat (first | fail)
          have hcat : flat eO os ++ flat eO [(7, 0, 0)] = flat eO (os ++ [(7, 0, 0)]) := (flat_append ..).symm
          refine G.app rfl rfl (by rfl) (by omega) rfl (hcat) (fun o2 c2 rs_ hrs_ => ?_)
          try simp only at hrs_
          subst hrs_
          repeat (first | (apply G.ex (hd := rfl); case h => (first | exact Ex.move rfl | exact Ex.add rfl rfl (by omega) | exact Ex.assign rfl)) | refine G.nil ?_ | refine GC.region ?_ | refine GE.then_normal ?_ | refine GE.block_normal ?_)
          have hst := Step.none (fs.map ab, []) i 0 rfl rfl
          refine GE.loop (k + 1, (o2, c2), (to_, tc), fs, [], os ++ [(7, 0, 0)]) ⟨by simp only; omega, by simp only; omega, hf, hw, (by simp only; rw [htk]; exact hp.snoc hst)⟩ (by simp only; omega) (by simp only [fits]; repeat (first | exact trivial | refine And.intro rfl ?_)) (by repeat (first | exact Takes.nil | apply Takes.dup rfl | apply Takes.cons | exact Take1.here | apply Take1.there)) (by repeat (first | exact Subs.refl | refine Subs.skip ?_))
        | cons i0 T0 =>
          repeat (first | (apply G.ex (hd := rfl); case h => (first | exact Ex.move rfl | exact Ex.fieldB rfl | exact Ex.loadB rfl rfl | exact Ex.lss rfl rfl | exact Ex.assign rfl)) | refine G.nil ?_ | refine GC.seq ?_ | refine GC.region ?_ | refine GE.then_normal ?_ | refine GC.cond_no rfl (by first | assumption | omega) ?_)
          first | refine G.call (caps := []) (sends_sp rb fo fc to_ tc fs i0 T0 Q.length hl hf hw) rfl rfl rfl rfl (by repeat (first | exact Takes.nil | apply Takes.dup rfl | apply Takes.cons | exact Take1.here | apply Take1.there)) ?_ | refine G.callU (caps := []) (sends_sp rb fo fc to_ tc fs i0 T0 Q.length hl hf hw) rfl rfl rfl (by repeat (first | exact Takes.nil | apply Takes.dup rfl | apply Takes.cons | exact Take1.here | apply Take1.there)) ?_
          rintro v_ give_ ⟨to2, tc2, fs2, T2, o, hs2, rfl, hf2, hl2, rfl⟩ rs_ hrs_
          simp only [List.cons_append, List.nil_append] at hrs_
          subst hrs_
          repeat (first | fail)
          refine G.lit rfl (by rfl) (by rfl) (by rfl) (by rfl) (by rfl) (by rfl) rfl (fun y2 => ?_)
          repeat (first | fail)
          have hcat : flat eO os ++ flat eO [(0, o.1, o.2)] = flat eO (os ++ [(0, o.1, o.2)]) := (flat_append ..).symm
          refine G.app rfl rfl (by rfl) (by omega) rfl (hcat) (fun o2 c2 rs_ hrs_ => ?_)
          try simp only at hrs_
          subst hrs_
          repeat (first | (apply G.ex (hd := rfl); case h => (first | exact Ex.move rfl | exact Ex.add rfl rfl (by omega) | exact Ex.assign rfl)) | refine G.nil ?_ | refine GC.region ?_ | refine GE.then_normal ?_ | refine GE.block_normal ?_)
          have hst := Step.sends (fs.map ab, i0 :: T0) (fs2.map ab, T2) i 0 o rfl hs2
          have hwf := (sends_w hs2 hw).1
          refine GE.loop (k + 1, (o2, c2), (to2, tc2), fs2, T2, os ++ [(0, o.1, o.2)]) ⟨by simp only; omega, by simp only; omega, hf2, hwf, (by simp only; rw [htk]; exact hp.snoc hst)⟩ (by simp only; omega) (by simp only [fits]; repeat (first | exact trivial | refine And.intro rfl ?_)) (by repeat (first | exact Takes.nil | apply Takes.dup rfl | apply Takes.cons | exact Take1.here | apply Take1.there)) (by repeat (first | exact Subs.refl | refine Subs.skip ?_))
    · have hkl2 : k = L.length := by omega
      subst hkl2
      rw [List.take_length] at hp
      repeat (first | (apply G.ex (hd := rfl); case h => (first | exact Ex.move rfl | exact Ex.assign rfl)) | refine G.nil ?_ | refine GC.seq ?_ | refine GC.region ?_ | refine GC.ret ?_ | refine GC.exit ?_ | refine GE.then_normal ?_ | refine GE.then_exit ?_ | refine GE.block_hit ?_)
      refine GE.ret (by first | exact .inl rfl | exact .inr rfl) (by first | exact res0 Try.results28 | exact res1 Try.results28 rfl | exact res2 Try.results28 rfl rfl | exact resR1 Try.results28 (by first | exact RV.tmp rfl | exact RV.cell rfl rfl | exact RV.cell1 rfl) | exact resR2 Try.results28 (by first | exact RV.tmp rfl | exact RV.cell rfl rfl | exact RV.cell1 rfl) (by first | exact RV.tmp rfl | exact RV.cell rfl rfl | exact RV.cell1 rfl) | exact resR3 Try.results28 (by first | exact RV.tmp rfl | exact RV.cell rfl rfl | exact RV.cell1 rfl) (by first | exact RV.tmp rfl | exact RV.cell rfl rfl | exact RV.cell1 rfl) (by first | exact RV.tmp rfl | exact RV.cell rfl rfl | exact RV.cell1 rfl)) ⟨oa, oc, os, _, hp, hos, rfl, rfl⟩ (by repeat (first | exact Takes.nil | apply Takes.dup rfl | apply Takes.cons | exact Take1.here | apply Take1.there)) (by repeat (first | exact Subs.refl | refine Subs.skip ?_))
end fair
end Go.Proofs.Ytcabcpealkbekaa
