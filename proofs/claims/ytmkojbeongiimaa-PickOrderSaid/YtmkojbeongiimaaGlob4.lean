/-
  CONTRACT of glob.match, by the kit.
-/
import Derived.Test.YtmkojbeongiimaaGlob2
namespace Go.Proofs.Ytmkojbeongiimaa
open Go.RowKit
attribute [local irreducible] Ex G GC GE Gq FPost LPost
set_option linter.unusedVariables false
set_option linter.unusedSimpArgs false
namespace glob
/-- a run's place as a number: -1 is none -/
def rI : Option Nat → Int
  | none => -1
  | some k => (k : Int)
theorem Ex.indexPR {P : Program} {n : Nat} {w0 : World} {fr : Slots} {rs : List Res} {ty t : TypeId} {x y : Operand} {m e bytes k i : Nat} {ao : Option Addr} {KK : IntKind} {zs : List Value} [hU : Und P t (.array m e)] [hI : Inf P e 1 bytes zs] (hx : ev fr x = some (.pointer (some (eadr ao (i * 257 + 1))))) (hy : ev fr y = some (.int KK (k : Int))) (hk : k < m) : Ex P n w0 rs fr (.indexAddr t x y) ty (.pointer (some (eadr ao (i * 257 + (0 + 1 + k))))) := by
  have := Ex.indexPE (P := P) (n := n) (w0 := w0) (rs := rs) (ty := ty) (t := t) hx hy hk
  rwa [show i * 257 + 1 + k = i * 257 + (0 + 1 + k) by omega] at this
set_option maxHeartbeats 4000000 in
set_option maxRecDepth 100000 in
theorem match_sp (r : Res) (ao : Option Addr) (n c : Nat) (L : List Pt) (hL : L.length = n) (hn : n ≤ 40) [hr : RdR r ao n c 257 (flat eP L)] (s : List UInt8) (h200 : s.length ≤ 200) :
    Spec Try.prog 16 [.slice ao n c, .string (sOf s)] [r] fun v give => v = .bool (mtB L s) ∧ give = [r] := by
  refine Spec.intro Try.func16 rfl Try.ntmps16 rfl fun w0 rest rs_ hrs_ => ?_
  simp only [List.cons_append, List.nil_append] at hrs_
  subst hrs_
  repeat (first | (apply G.ex (hd := rfl); case h => (first | exact Ex.assign rfl)) | refine G.nil ?_ | refine GC.seq ?_ | refine GC.region ?_ | refine GC.block ?_ | refine GE.then_normal ?_)
  refine GC.loop (ι := Nat × Nat × Option Nat × Nat) (fun x => Inv L s x.1 x.2.1 x.2.2.1 x.2.2.2) (fun x => (s.length - x.2.2.2) * (s.length + n + 1) + (s.length - x.2.1) + (n - x.1)) (fun x => [(0, .slice ao n c), (1, .string (sOf s)), (5, .int .i64 (x.1 : Int)), (6, .int .i64 (x.2.1 : Int)), (7, .int .i64 (rI x.2.2.1)), (8, .int .i64 (x.2.2.2 : Int))]) (fun x => [r]) (0, 0, none, 0) Inv.start (by simp only [fits]; repeat (first | exact trivial | refine And.intro rfl ?_)) (by repeat (first | exact Takes.nil | apply Takes.dup rfl | apply Takes.cons | exact Take1.here | apply Take1.there)) ?_
  rintro ⟨i, a, ru, f⟩ hI fr_ rs_ hfr_ hrs_
  simp only [List.cons_append, List.nil_append] at hfr_ hrs_
  subst hfr_ hrs_
  simp only at hI
  obtain ⟨b1, b2, b3, _⟩ := id hI
  have hu := UInt8.toNat_lt (s.getD a 0)
  by_cases ha : a < s.length
  · repeat (first | (apply G.ex (hd := rfl); case h => (first | exact Ex.move rfl | exact Ex.lenO rfl | exact Ex.lss rfl rfl | exact Ex.lenSl rfl)) | refine G.nil ?_ | refine GC.seq ?_ | refine GC.region ?_ | refine GC.block ?_ | refine GC.skip ?_ | refine GE.then_normal ?_ | refine GC.cond_yes rfl (by first | assumption | omega) ?_)
    by_cases hi : i < n
    · repeat (first | (apply G.ex (hd := rfl); case h => (first | exact Ex.move rfl | exact Ex.loadRP rfl (by first | omega | (simp; done) | (simp; omega)) (by omega) | exact Ex.fieldE rfl | exact Ex.indexN rfl rfl (by first | omega | (simp; done) | (simp; omega)) | exact Ex.assign rfl | exact Ex.pickT rfl (by first | assumption | omega) rfl)) | refine G.g_tt rfl rfl (by first | assumption | omega) ?_ | refine G.nil ?_ | refine GE.then_normal ?_)
      cases hp : (L.getD i default) 0 with
      | true =>
        repeat (first | (apply G.ex (hd := rfl); case h => (first | exact Ex.move rfl | exact Ex.add rfl rfl (by omega) | exact Ex.assign rfl)) | refine G.nil ?_ | refine GC.seq ?_ | refine GC.region ?_ | refine GE.then_normal ?_ | refine GE.block_normal ?_ | refine GC.cond_t rfl ?_)
        have h := hI.run (by omega) hp
        rw [show (i : Int) + 1 = ((i + 1 : Nat) : Int) by omega]
        have hme : (s.length - a) * (s.length + n + 1) + (s.length - a) + (n - (i + 1)) < (s.length - f) * (s.length + n + 1) + (s.length - a) + (n - i) := by
          have h1 : s.length - a ≤ s.length - f := by omega
          have := Nat.mul_le_mul_right (s.length + n + 1) h1
          omega
        refine GE.loop (i + 1, a, some i, a) h hme (by simp only [fits]; repeat (first | exact trivial | refine And.intro rfl ?_)) (by repeat (first | exact Takes.nil | apply Takes.dup rfl | apply Takes.cons | exact Take1.here | apply Take1.there)) (by repeat (first | exact Subs.refl | refine Subs.skip ?_))
      | false =>
        iterate 23 (first | (apply Gq.ex (hd := rfl); case h => (first | exact Ex.move rfl | exact Ex.indexO rfl rfl (by omega) | exact Ex.fieldE rfl | exact Ex.lss rfl rfl | exact Ex.lenSl rfl | exact Ex.indexN rfl rfl (by first | omega | (simp; done) | (simp; omega)))) | refine Gq.g_tt rfl rfl (by first | assumption | omega) ?_ | refine GC.seq ?_ | refine GC.draw (by kernel_rfl) (by kernel_rfl) ?_ | refine GC.cond_f rfl ?_)
        refine Gq.ex (Ex.indexPR rfl rfl (by omega)) rfl ?_
        repeat (first | (apply Gq.ex (hd := rfl); case h => (first | exact Ex.loadRP rfl (by first | omega | (simp; done) | (simp; omega)) (by omega) | exact Ex.assign rfl | exact Ex.pickT rfl (by first | assumption | omega) rfl)) | refine Gq.g_tt rfl rfl (by first | assumption | omega) ?_ | refine Gq.nil ?_ | refine GE.then_normal ?_)
        cases hc : (L.getD i default) (0 + 1 + (s.getD a 0).toNat) with
        | true =>
          repeat (first | (apply G.ex (hd := rfl); case h => (first | exact Ex.move rfl | exact Ex.add rfl rfl (by omega) | exact Ex.assign rfl)) | refine G.nil ?_ | refine GC.seq ?_ | refine GC.region ?_ | refine GE.then_normal ?_ | refine GE.block_normal ?_ | refine GC.cond_t rfl ?_)
          have h := hI.step (by omega) ha hp hc
          rw [show (i : Int) + 1 = ((i + 1 : Nat) : Int) by omega, show (a : Int) + 1 = ((a + 1 : Nat) : Int) by omega]
          refine GE.loop (i + 1, a + 1, ru, f) h (by simp only; omega) (by simp only [fits]; repeat (first | exact trivial | refine And.intro rfl ?_)) (by repeat (first | exact Takes.nil | apply Takes.dup rfl | apply Takes.cons | exact Take1.here | apply Take1.there)) (by repeat (first | exact Subs.refl | refine Subs.skip ?_))
        | false =>
          have hno := hI.stuck ha (fun h => by rw [hp] at h; exact nomatch h.2) (fun h => by rw [hc] at h; exact nomatch h.2)
          cases ru with
          | none =>
            have h1 : ¬ 0 ≤ rI none := by decide
            repeat (first | (apply G.ex (hd := rfl); case h => (first | exact Ex.move rfl | exact Ex.geq rfl rfl | exact Ex.assign rfl)) | refine G.nil ?_ | refine GC.seq ?_ | refine GC.region ?_ | refine GC.ret ?_ | refine GE.then_normal ?_ | refine GE.then_ret ?_ | refine GE.block_ret ?_ | refine GC.cond_no rfl (by first | assumption | omega) ?_)
            refine GE.ret (by first | exact .inl rfl | exact .inr rfl) (by first | exact res0 Try.results16 | exact res1 Try.results16 rfl | exact res2 Try.results16 rfl rfl | exact resR1 Try.results16 (by first | exact RV.tmp rfl | exact RV.cell rfl (eP_len _) | exact RV.cell rfl rfl | exact RV.cell1 rfl) | exact resR2 Try.results16 (by first | exact RV.tmp rfl | exact RV.cell rfl (eP_len _) | exact RV.cell rfl rfl | exact RV.cell1 rfl) (by first | exact RV.tmp rfl | exact RV.cell rfl (eP_len _) | exact RV.cell rfl rfl | exact RV.cell1 rfl) | exact resR3 Try.results16 (by first | exact RV.tmp rfl | exact RV.cell rfl (eP_len _) | exact RV.cell rfl rfl | exact RV.cell1 rfl) (by first | exact RV.tmp rfl | exact RV.cell rfl (eP_len _) | exact RV.cell rfl rfl | exact RV.cell1 rfl) (by first | exact RV.tmp rfl | exact RV.cell rfl (eP_len _) | exact RV.cell rfl rfl | exact RV.cell1 rfl)) ⟨by rw [mtB_false.2]; exact fun h => hno (hI.2.2.2.1 h), rfl⟩ (by repeat (first | exact Takes.nil | apply Takes.dup rfl | apply Takes.cons | exact Take1.here | apply Take1.there)) (by repeat (first | exact Subs.refl | refine Subs.skip ?_))
          | some k =>
            rw [show rI (some k) = (k : Int) from rfl]
            have h1 : 0 ≤ (k : Int) := by omega
            have hlt : k < i := hI.2.2.2.1
            repeat (first | (apply G.ex (hd := rfl); case h => (first | exact Ex.move rfl | exact Ex.add rfl rfl (by omega) | exact Ex.geq rfl rfl | exact Ex.assign rfl)) | refine G.nil ?_ | refine GC.seq ?_ | refine GC.region ?_ | refine GE.then_normal ?_ | refine GE.block_normal ?_ | refine GC.cond_yes rfl (by first | assumption | omega) ?_ | refine GC.cond_f rfl ?_)
            have h := hI.back ha hno
            rw [show (k : Int) + 1 = ((k + 1 : Nat) : Int) by omega, show (f : Int) + 1 = ((f + 1 : Nat) : Int) by omega]
            have hme : (s.length - (f + 1)) * (s.length + n + 1) + (s.length - (f + 1)) + (n - (k + 1)) < (s.length - f) * (s.length + n + 1) + (s.length - a) + (n - i) := by
              have h1 : s.length - f = (s.length - (f + 1)) + 1 := by omega
              rw [h1, Nat.add_mul]
              omega
            refine GE.loop (k + 1, f + 1, some k, f + 1) h hme (by simp only [fits]; repeat (first | exact trivial | refine And.intro rfl ?_)) (by repeat (first | exact Takes.nil | apply Takes.dup rfl | apply Takes.cons | exact Take1.here | apply Take1.there)) (by repeat (first | exact Subs.refl | refine Subs.skip ?_))
    · repeat (first | (apply G.ex (hd := rfl); case h => (first | exact Ex.move rfl | exact Ex.geq rfl rfl | exact Ex.assign rfl | exact Ex.pickF rfl (by first | assumption | omega) rfl)) | refine G.g_tf rfl rfl (by first | assumption | omega) rfl ?_ | refine G.nil ?_ | (apply Gq.ex (hd := rfl); case h => (first | exact Ex.move rfl | exact Ex.lss rfl rfl | exact Ex.lenSl rfl | exact Ex.assign rfl | exact Ex.pickF rfl (by first | assumption | omega) rfl)) | refine Gq.g_tf rfl rfl (by first | assumption | omega) rfl ?_ | refine Gq.nil ?_ | refine GC.seq ?_ | refine GC.region ?_ | refine GC.draw (by kernel_rfl) (by kernel_rfl) ?_ | refine GE.then_normal ?_ | refine GC.cond_f rfl ?_)
      have hno := hI.stuck ha (fun h => by omega) (fun h => by omega)
      cases ru with
      | none =>
        have h1 : ¬ 0 ≤ rI none := by decide
        repeat (first | (apply G.ex (hd := rfl); case h => (first | exact Ex.assign rfl)) | refine G.nil ?_ | refine GC.seq ?_ | refine GC.region ?_ | refine GC.ret ?_ | refine GE.then_normal ?_ | refine GE.then_ret ?_ | refine GE.block_ret ?_ | refine GC.cond_no rfl (by first | assumption | omega) ?_)
        refine GE.ret (by first | exact .inl rfl | exact .inr rfl) (by first | exact res0 Try.results16 | exact res1 Try.results16 rfl | exact res2 Try.results16 rfl rfl | exact resR1 Try.results16 (by first | exact RV.tmp rfl | exact RV.cell rfl (eP_len _) | exact RV.cell rfl rfl | exact RV.cell1 rfl) | exact resR2 Try.results16 (by first | exact RV.tmp rfl | exact RV.cell rfl (eP_len _) | exact RV.cell rfl rfl | exact RV.cell1 rfl) (by first | exact RV.tmp rfl | exact RV.cell rfl (eP_len _) | exact RV.cell rfl rfl | exact RV.cell1 rfl) | exact resR3 Try.results16 (by first | exact RV.tmp rfl | exact RV.cell rfl (eP_len _) | exact RV.cell rfl rfl | exact RV.cell1 rfl) (by first | exact RV.tmp rfl | exact RV.cell rfl (eP_len _) | exact RV.cell rfl rfl | exact RV.cell1 rfl) (by first | exact RV.tmp rfl | exact RV.cell rfl (eP_len _) | exact RV.cell rfl rfl | exact RV.cell1 rfl)) ⟨by rw [mtB_false.2]; exact fun h => hno (hI.2.2.2.1 h), rfl⟩ (by repeat (first | exact Takes.nil | apply Takes.dup rfl | apply Takes.cons | exact Take1.here | apply Take1.there)) (by repeat (first | exact Subs.refl | refine Subs.skip ?_))
      | some k =>
        rw [show rI (some k) = (k : Int) from rfl]
        have h1 : 0 ≤ (k : Int) := by omega
        have hlt : k < i := hI.2.2.2.1
        repeat (first | (apply G.ex (hd := rfl); case h => (first | exact Ex.move rfl | exact Ex.add rfl rfl (by omega) | exact Ex.assign rfl)) | refine G.nil ?_ | refine GC.seq ?_ | refine GC.region ?_ | refine GE.then_normal ?_ | refine GE.block_normal ?_ | refine GC.cond_yes rfl (by first | assumption | omega) ?_)
        have h := hI.back ha hno
        rw [show (k : Int) + 1 = ((k + 1 : Nat) : Int) by omega, show (f : Int) + 1 = ((f + 1 : Nat) : Int) by omega]
        have hme : (s.length - (f + 1)) * (s.length + n + 1) + (s.length - (f + 1)) + (n - (k + 1)) < (s.length - f) * (s.length + n + 1) + (s.length - a) + (n - i) := by
          have h1 : s.length - f = (s.length - (f + 1)) + 1 := by omega
          rw [h1, Nat.add_mul]
          omega
        refine GE.loop (k + 1, f + 1, some k, f + 1) h hme (by simp only [fits]; repeat (first | exact trivial | refine And.intro rfl ?_)) (by repeat (first | exact Takes.nil | apply Takes.dup rfl | apply Takes.cons | exact Take1.here | apply Take1.there)) (by repeat (first | exact Subs.refl | refine Subs.skip ?_))
  · obtain rfl : a = s.length := by omega
    have hov := hI.over
    repeat (first | (apply G.ex (hd := rfl); case h => (first | exact Ex.move rfl | exact Ex.lenO rfl | exact Ex.lss rfl rfl)) | refine G.nil ?_ | refine GC.seq ?_ | refine GC.region ?_ | refine GC.block ?_ | refine GC.exit ?_ | refine GE.then_normal ?_ | refine GE.then_exit ?_ | refine GE.block_hit ?_ | refine GC.cond_no rfl (by first | assumption | omega) ?_)
    refine GC.loop (ι := Nat) (fun x => x ≤ n ∧ (Mt L s ↔ Mt (L.drop x) [])) (fun x => n - x) (fun x => [(0, .slice ao n c), (1, .string (sOf s)), (5, .int .i64 (x : Int))]) (fun x => [r]) i ⟨by omega, hov⟩ (by simp only [fits]; repeat (first | exact trivial | refine And.intro rfl ?_)) (by repeat (first | exact Takes.nil | apply Takes.dup rfl | apply Takes.cons | exact Take1.here | apply Take1.there)) ?_
    clear hI hov b1
    rintro j ⟨hj, hm⟩ fr_ rs_ hfr_ hrs_
    simp only [List.cons_append, List.nil_append] at hfr_ hrs_
    subst hfr_ hrs_
    by_cases hi : j < n
    · repeat (first | (apply G.ex (hd := rfl); case h => (first | exact Ex.move rfl | exact Ex.loadRP rfl (by first | omega | (simp; done) | (simp; omega)) (by omega) | exact Ex.fieldE rfl | exact Ex.lss rfl rfl | exact Ex.lenSl rfl | exact Ex.indexN rfl rfl (by first | omega | (simp; done) | (simp; omega)) | exact Ex.pickT rfl (by first | assumption | omega) rfl)) | refine G.g_tt rfl rfl (by first | assumption | omega) ?_ | refine G.nil ?_ | refine GC.seq ?_ | refine GC.region ?_ | refine GE.then_normal ?_)
      cases hp : (L.getD j default) 0 with
      | true =>
        repeat (first | (apply G.ex (hd := rfl); case h => (first | exact Ex.move rfl | exact Ex.add rfl rfl (by omega) | exact Ex.assign rfl)) | refine G.nil ?_ | refine GC.region ?_ | refine GC.block ?_ | refine GC.skip ?_ | refine GE.then_normal ?_ | refine GE.block_normal ?_ | refine GC.cond_t rfl ?_)
        rw [show (j : Int) + 1 = ((j + 1 : Nat) : Int) by omega]
        refine GE.loop (j + 1) ⟨by omega, hm.trans (mt_nil (by omega) hp)⟩ (by omega) (by simp only [fits]; repeat (first | exact trivial | refine And.intro rfl ?_)) (by repeat (first | exact Takes.nil | apply Takes.dup rfl | apply Takes.cons | exact Take1.here | apply Take1.there)) (by repeat (first | exact Subs.refl | refine Subs.skip ?_))
      | false =>
        repeat (first | (apply G.ex (hd := rfl); case h => (first | exact Ex.move rfl | exact Ex.eqI rfl rfl | exact Ex.lenSl rfl | exact Ex.assign rfl)) | refine G.nil ?_ | refine GC.seq ?_ | refine GC.region ?_ | refine GC.ret ?_ | refine GC.exit ?_ | refine GE.then_normal ?_ | refine GE.then_exit ?_ | refine GE.block_hit ?_ | refine GC.cond_f rfl ?_)
        have h := hm.trans (mt_end (L := L) (i := j) (by omega) (fun h => by rw [hp] at h; exact nomatch h.2))
        refine GE.ret (by first | exact .inl rfl | exact .inr rfl) (by first | exact res0 Try.results16 | exact res1 Try.results16 rfl | exact res2 Try.results16 rfl rfl | exact resR1 Try.results16 (by first | exact RV.tmp rfl | exact RV.cell rfl (eP_len _) | exact RV.cell rfl rfl | exact RV.cell1 rfl) | exact resR2 Try.results16 (by first | exact RV.tmp rfl | exact RV.cell rfl (eP_len _) | exact RV.cell rfl rfl | exact RV.cell1 rfl) (by first | exact RV.tmp rfl | exact RV.cell rfl (eP_len _) | exact RV.cell rfl rfl | exact RV.cell1 rfl) | exact resR3 Try.results16 (by first | exact RV.tmp rfl | exact RV.cell rfl (eP_len _) | exact RV.cell rfl rfl | exact RV.cell1 rfl) (by first | exact RV.tmp rfl | exact RV.cell rfl (eP_len _) | exact RV.cell rfl rfl | exact RV.cell1 rfl) (by first | exact RV.tmp rfl | exact RV.cell rfl (eP_len _) | exact RV.cell rfl rfl | exact RV.cell1 rfl)) ⟨by rw [mtB_false.2 (fun k => by have := h.1 k; omega), show decide ((j : Int) = (n : Int)) = false from decide_eq_false (by omega)], rfl⟩ (by repeat (first | exact Takes.nil | apply Takes.dup rfl | apply Takes.cons | exact Take1.here | apply Take1.there)) (by repeat (first | exact Subs.refl | refine Subs.skip ?_))
    · repeat (first | (apply G.ex (hd := rfl); case h => (first | exact Ex.move rfl | exact Ex.lss rfl rfl | exact Ex.eqI rfl rfl | exact Ex.lenSl rfl | exact Ex.assign rfl | exact Ex.pickF rfl (by first | assumption | omega) rfl)) | refine G.g_tf rfl rfl (by first | assumption | omega) rfl ?_ | refine G.nil ?_ | refine GC.seq ?_ | refine GC.region ?_ | refine GC.ret ?_ | refine GC.exit ?_ | refine GE.then_normal ?_ | refine GE.then_exit ?_ | refine GE.block_hit ?_ | refine GC.cond_f rfl ?_)
      have h := hm.trans (mt_end (L := L) (i := j) (by omega) (fun h => by omega))
      refine GE.ret (by first | exact .inl rfl | exact .inr rfl) (by first | exact res0 Try.results16 | exact res1 Try.results16 rfl | exact res2 Try.results16 rfl rfl | exact resR1 Try.results16 (by first | exact RV.tmp rfl | exact RV.cell rfl (eP_len _) | exact RV.cell rfl rfl | exact RV.cell1 rfl) | exact resR2 Try.results16 (by first | exact RV.tmp rfl | exact RV.cell rfl (eP_len _) | exact RV.cell rfl rfl | exact RV.cell1 rfl) (by first | exact RV.tmp rfl | exact RV.cell rfl (eP_len _) | exact RV.cell rfl rfl | exact RV.cell1 rfl) | exact resR3 Try.results16 (by first | exact RV.tmp rfl | exact RV.cell rfl (eP_len _) | exact RV.cell rfl rfl | exact RV.cell1 rfl) (by first | exact RV.tmp rfl | exact RV.cell rfl (eP_len _) | exact RV.cell rfl rfl | exact RV.cell1 rfl) (by first | exact RV.tmp rfl | exact RV.cell rfl (eP_len _) | exact RV.cell rfl rfl | exact RV.cell1 rfl)) ⟨by rw [mtB_true.2 (h.2 (by omega)), show decide ((j : Int) = (n : Int)) = true from decide_eq_true (by omega)], rfl⟩ (by repeat (first | exact Takes.nil | apply Takes.dup rfl | apply Takes.cons | exact Take1.here | apply Take1.there)) (by repeat (first | exact Subs.refl | refine Subs.skip ?_))
end glob
end Go.Proofs.Ytmkojbeongiimaa
