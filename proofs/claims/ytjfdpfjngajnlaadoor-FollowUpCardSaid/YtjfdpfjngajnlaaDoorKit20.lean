/-
  THE KIT OF MY OWN, TWENTIETH PART: variables that are arrays, as rows. Over any program; no condition.
-/
import Derived.Test.YtjfdpfjngajnlaaDoorKit17
namespace Go.Proofs.YtjfdpfjngajnlaaDoor
open Go.RowKit Go.Sort
set_option linter.unusedVariables false
set_option linter.unusedSimpArgs false

section
variable {P : Program} {ops : Array Oper} {Q : Exit → Act → World → Prop} {K : Act → Prop} {n : Nat} {ds : List Deferred} {w0 : World} {rest : List Oper} {fr : Slots} {rs rs' : List Res} {ty t tx t' : TypeId} {x y z : Operand} {pos : String} {after : Array Edge}

theorem Ex.indexArr {m e size bytes k : Nat} {KK : IntKind} {zs : List Value} {a0 : Addr} [hU : Und P t (.array m e)] [hI : Inf P e size bytes zs] (hx : ev fr x = some (.pointer (some a0))) (hy : ev fr y = some (.int KK (k : Int))) (hk : k < m) : Ex P n w0 rs fr (.indexAddr t x y) ty (.pointer (some (eadr (some a0) (k * size)))) :=
  fun _ w _ _ _ _ hf hw => by
    have h2 : (0 : Int) ≤ (k : Int) := by omega
    have h3 : (k : Int) < (m : Int) := by omega
    simp [execOp, hf.ev hx, hf.ev hy, Instr.indexAt, asIntOf, run_underlying hU.und, Sem.run_bind, sizeOf_run hI, h2, eadr, Instr.sureAddr]
    intro hh
    omega
theorem Holds.blkVec {w : World} {b s m : Nat} {cs : List Value} (H : Holds w0 w (.blk b t cs :: rs)) (hl : cs.length = m * s) (h1 : ∀ u ∈ cs, u.oneCell' = true) (hm : m ≤ 1000000) : Holds w0 w (.vec t s (some (badr b 0)) m m cs :: rs) := by
  refine H.step rfl rfl rfl (Nat.le_refl _) fun f o hs _ ho => ⟨o, ?_, ho, fun k _ h => ⟨h, rfl⟩⟩
  refine ⟨hl, h1, .inr ⟨b, 0, cs.toArray, rfl, hs, Nat.le_refl _, by unfold maxLen; omega, by simp [hl], ?_⟩⟩
  rw [← hl]; simp
/-- arrays of numbers held against each other -/
theorem equalIn_ints {m e d : Nat} {k : IntKind} (hU : Und P t (.array m e)) (hE : Und P e (.int k)) (hsz : ∀ w, (sizeOf e).run P w = .ok 1 w) (xs ys : List Int) (hx : xs.length = m) (hy : ys.length = m) (w : World) :
    (Op.equalIn (d + 2) t (.agg (flat (eI k) xs).toArray) (.agg (flat (eI k) ys).toArray)).run P w = .ok (decide (xs = ys)) w := by
  have key : ∀ l : List Nat, (∀ i ∈ l, i < m) → decide (∀ i ∈ l, xs.getD i 0 = ys.getD i 0) = l.all fun i => decide (xs.getD i 0 = ys.getD i 0) := fun l hl => by
    rw [Bool.eq_iff_iff]; simp
  have hfin : decide (xs = ys) = (List.range' 0 m 1).all fun i => decide (xs.getD i 0 = ys.getD i 0) := by
    rw [← key _ (fun i hi => by simpa using (List.mem_range'_1.1 hi).2), Bool.eq_iff_iff, decide_eq_true_iff, decide_eq_true_iff]
    constructor
    · intro h i _; rw [h]
    · intro h
      apply List.ext_getElem (by omega)
      intro i h1 h2
      have := h i (by rw [List.mem_range'_1]; omega)
      simpa [List.getD_eq_getElem?_getD, List.getElem?_eq_getElem h1, List.getElem?_eq_getElem h2] using this
  have hfl : ∀ zs : List Int, flat (eI k) zs = zs.map (Value.int k) := fun zs => by
    induction zs with
    | nil => rfl
    | cons x l ih => simp only [flat, List.flatMap_cons, List.map_cons] at ih ⊢; rw [ih]; rfl
  rw [hfin, hfl, hfl, Op.equalIn]
  simp only [Sem.run_bind, run_underlying hU.und, Result.andThen_ok, hsz, Std.Legacy.Range.forIn_eq_forIn_range', Std.Legacy.Range.size, Nat.sub_zero, Nat.add_sub_cancel, Nat.div_one]
  have hl : ∀ i ∈ List.range' 0 m 1, i < m := fun i hi => by simpa using (List.mem_range'_1.1 hi).2
  generalize List.range' 0 m 1 = l at hl ⊢
  induction l with
  | nil => simp
  | cons i l ih =>
    have hi : i < m := hl i (by simp)
    have px : (part e (xs.map (Value.int k)).toArray (i * 1)).run P w = .ok (.int k (xs.getD i 0)) w := by
      simp [part, isAgg, run_underlying hE.und, List.getElem?_eq_getElem (show i < xs.length by omega)]
    have py : (part e (ys.map (Value.int k)).toArray (i * 1)).run P w = .ok (.int k (ys.getD i 0)) w := by
      simp [part, isAgg, run_underlying hE.und, List.getElem?_eq_getElem (show i < ys.length by omega)]
    have pe : (Op.equalIn (d + 1) e (.int k (xs.getD i 0)) (.int k (ys.getD i 0))).run P w = .ok (decide (xs.getD i 0 = ys.getD i 0)) w := by
      rw [run_equalIn_int w d e k k _ _ hE.und]
      simp
      rfl
    simp only [List.forIn_cons, Sem.run_bind, px, py, pe, Result.andThen_ok, List.all_cons]
    by_cases hb : xs.getD i 0 = ys.getD i 0
    · simp only [hb, decide_true, Bool.not_true, Bool.false_eq_true, if_false, Sem.run_pure, Result.andThen_ok, Bool.true_and]
      exact ih fun j hj => hl j (by simp [hj])
    · have hb' := hb
      simp only [List.getD_eq_getElem?_getD] at hb'
      simp [hb, hb']
theorem Ex.loadArI {m bytes : Nat} {k : IntKind} {zs : List Value} {xs : List Int} {ao : Option Addr} [hA : Agg P t] [hI : Inf P t m bytes zs] (hx : ev fr x = some (.pointer ao)) [hB : CelAt rs ao (flat (eI k) xs)] (hl : xs.length = m) (hp : Nat.blt 0 m = true) : Ex P n w0 rs fr (.load t x) ty (.agg (flat (eI k) xs).toArray) := by
  have h1 : (flat (eI k) xs).length = m := by
    have : ∀ ys : List Int, (flat (eI k) ys).length = ys.length := fun ys => by
      induction ys with
      | nil => rfl
      | cons y l ih => simp only [flat, List.flatMap_cons, List.length_append, List.length_cons] at ih ⊢; rw [ih]; simp [eI]; omega
    rw [this, hl]
  exact Ex.loadAr (size := m) hx (List.take_of_length_le (Nat.le_of_eq h1)) h1 hp
class NoEqG (P : Program) (t : TypeId) : Prop where
  guard : P.eqGuardType P.depth t = false
theorem Ex.eqArrI {m e bytes : Nat} {k : IntKind} {zs : List Value} {xs ys : List Int} [hU : Und P t (.array m e)] [hE : Und P e (.int k)] [hI : Inf P e 1 bytes zs] [hg : NoEqG P t] (hx : ev fr x = some (.agg (flat (eI k) xs).toArray)) (hy : ev fr y = some (.agg (flat (eI k) ys).toArray)) (h1 : xs.length = m) (h2 : ys.length = m) :
    Ex P n w0 rs fr (.binOp .eql t x y t') ty (.bool (decide (xs = ys))) :=
  fun _ w _ _ _ _ hf _ => by
    have h3 := run_eqGuard_agg (P := P) w .eql t x y (flat (eI k) xs).toArray (flat (eI k) ys).toArray hg.guard
    have h4 := equalIn_ints (d := 9998) hU hE (fun w => sizeOf_run hI w) xs ys h1 h2 w
    simp only [execOp, hf.ev hx, hf.ev hy, Sem.run_bind, h3, Result.andThen_ok]
    simp [binOp, Op.equal, show Op.maxDepth = 9998 + 2 from rfl, h4]
end
end Go.Proofs.YtjfdpfjngajnlaaDoor
