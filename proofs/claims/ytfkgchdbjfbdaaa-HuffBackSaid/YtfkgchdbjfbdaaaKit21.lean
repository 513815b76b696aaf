/-
  THE KIT OF MY OWN, TWENTY-FIRST PART: bits of bytes, and arrays as values. Over any program; no condition.
-/
import Derived.Test.YtfkgchdbjfbdaaaKitN1
namespace Go.Proofs.Ytfkgchdbjfbdaaa
open Go.RowKit Go.Sort
set_option linter.unusedVariables false
set_option linter.unusedSimpArgs false

section
variable {P : Program} {ops : Array Oper} {Q : Exit → Act → World → Prop} {K : Act → Prop} {n : Nat} {ds : List Deferred} {w0 : World} {rest : List Oper} {fr : Slots} {rs rs' : List Res} {ty t tx t' : TypeId} {x y z : Operand} {pos : String} {after : Array Edge}

theorem Ex.indexV {m e size bytes k : Nat} {KK : IntKind} {zs vs : List Value} {v : Value} [hU : Und P t (.array m e)] [hI : Inf P e size bytes zs] [hS : Sca P e] (hx : ev fr x = some (.agg vs.toArray)) (hy : ev fr y = some (.int KK (k : Int))) (hs : size = 1) (hv : vs[k]? = some v) (hk : k < m) : Ex P n w0 rs fr (.index t x y) ty v :=
  fun _ w _ _ _ _ hf hw => by
    subst hs
    have h2 : (0 : Int) ≤ (k : Int) := by omega
    have h3 : (k : Int) < (m : Int) := by omega
    have h4 : k < vs.length := (List.getElem?_eq_some_iff.1 hv).1
    have h5 := (List.getElem?_eq_some_iff.1 hv).2
    simp [execOp, hf.ev hx, hf.ev hy, Instr.index, asIntOf, run_underlying hU.und, Sem.run_bind, sizeOf_run hI, h2, h3, part, isAgg_run hS.sca, hv, h4, h5, hk]
theorem Ex.buildArr {m e size bytes es eb : Nat} {parts : List (Nat × Operand)} {vals : List (Nat × Value)} {zs ezs cells : List Value} [hU : Und P t (.array m e)] [hI : Inf P t size bytes zs] [hE : Inf P e es eb ezs] (hp : evp fr parts = some vals) (hc : fillL (fun i => some (i * es, es)) zs (cellsOf2 vals) = some cells) :
    Ex P n w0 rs fr (.build t parts.toArray) ty (.agg cells.toArray) :=
  fun a w dst pos after guard hf hw => by
    obtain ⟨i, z, g1, g2, g3, g4, g5⟩ := hI.get
    have hm := hf.evp hp
    rw [cellsOf2_eq] at hc
    have hfill := fill_eq (fun i => some (i * es, es)) vals zs cells hc
    rw [← g3] at hfill
    simp only [Array.toArray_toList] at hfill
    simp [execOp, Instr.build, zeroValue, typeInfo, g1, g2, run_underlying hU.und, sizeOf_run hE, hm, hfill]
theorem Ex.shlK {k : Nat} {KK : IntKind} (hx : ev fr x = some (.int .u8 1)) (hy : ev fr y = some (.int KK (k : Int))) (h : k < 4) : Ex P n w0 rs fr (.binOp .shl t x y t') ty (.int .u8 ((2 ^ k : Nat) : Int)) :=
  fun _ w _ _ _ _ hf _ => by
    match k, h with
    | 0, _ => simp [execOp, hf.ev hx, hf.ev hy, binOp, eqGuard, Op.shift, IntKind.bits]; rfl
    | 1, _ => simp [execOp, hf.ev hx, hf.ev hy, binOp, eqGuard, Op.shift, IntKind.bits]; rfl
    | 2, _ => simp [execOp, hf.ev hx, hf.ev hy, binOp, eqGuard, Op.shift, IntKind.bits]; rfl
    | 3, _ => simp [execOp, hf.ev hx, hf.ev hy, binOp, eqGuard, Op.shift, IntKind.bits]; rfl
theorem or_k : ∀ f : Fin 16, ∀ k : Fin 4, bits .or .u8 ((f.1 % 2 ^ k.1 : Nat) : Int) ((2 ^ k.1 : Nat) : Int) = ((f.1 % 2 ^ k.1 + 2 ^ k.1 : Nat) : Int) := by decide
theorem Ex.orK {f k : Nat} (hx : ev fr x = some (.int .u8 ((f % 2 ^ k : Nat) : Int))) (hy : ev fr y = some (.int .u8 ((2 ^ k : Nat) : Int))) (h : f < 16 ∧ k < 4) : Ex P n w0 rs fr (.binOp .or t x y t') ty (.int .u8 ((f % 2 ^ k + 2 ^ k : Nat) : Int)) := by
  have := Ex.or (P := P) (n := n) (w0 := w0) (rs := rs) (ty := ty) (t := t) (t' := t') hx hy
  rwa [or_k ⟨f, h.1⟩ ⟨k, h.2⟩] at this
theorem Ex.shrK {k : Nat} {b : UInt8} {KK : IntKind} (hx : ev fr x = some (.int .u8 (b.toNat : Int))) (hy : ev fr y = some (.int KK (k : Int))) (h : k < 4) : Ex P n w0 rs fr (.binOp .shr t x y t') ty (.int .u8 ((b.toNat / 2 ^ k : Nat) : Int)) :=
  fun _ w _ _ _ _ hf _ => by
    match k, h with
    | 0, _ => simp [execOp, hf.ev hx, hf.ev hy, binOp, eqGuard, Op.shift, IntKind.bits, fdiv_pos]
    | 1, _ => simp [execOp, hf.ev hx, hf.ev hy, binOp, eqGuard, Op.shift, IntKind.bits, fdiv_pos]
    | 2, _ => simp [execOp, hf.ev hx, hf.ev hy, binOp, eqGuard, Op.shift, IntKind.bits, fdiv_pos]
    | 3, _ => simp [execOp, hf.ev hx, hf.ev hy, binOp, eqGuard, Op.shift, IntKind.bits, fdiv_pos]
theorem Ex.andK {a : Nat} (hx : ev fr x = some (.int .u8 (a : Int))) (hy : ev fr y = some (.int .u8 1)) (h : a < 256) : Ex P n w0 rs fr (.binOp .and t x y t') ty (.int .u8 ((a % 2 : Nat) : Int)) := by
  have := Ex.and (P := P) (n := n) (w0 := w0) (rs := rs) (ty := ty) (t := t) (t' := t') hx hy
  rwa [show (1 : Int) = 2 ^ 1 - 1 from rfl, bits_mask .u8 8 (by decide) wraps_u8 1 (by decide) (a : Int) (by omega) (by omega), show (a : Int) % 2 ^ 1 = ((a % 2 : Nat) : Int) by omega] at this
theorem Ex.andS {b : UInt8} {k : Nat} (hx : ev fr x = some (.int .u8 ((b.toNat / 2 ^ k : Nat) : Int))) (hy : ev fr y = some (.int .u8 1)) : Ex P n w0 rs fr (.binOp .and t x y t') ty (.int .u8 ((b.toNat / 2 ^ k % 2 : Nat) : Int)) :=
  Ex.andK hx hy (Nat.lt_of_le_of_lt (Nat.div_le_self _ _) (UInt8.toNat_lt b))
theorem and_k : ∀ f : Fin 16, decide (0 < bits .and .i64 (f.1 : Int) 1) = decide (f.1 / 1 % 2 = 1) ∧ decide (0 < bits .and .i64 (f.1 : Int) 2) = decide (f.1 / 2 % 2 = 1) ∧ decide (0 < bits .and .i64 (f.1 : Int) 4) = decide (f.1 / 4 % 2 = 1) ∧ decide (0 < bits .and .i64 (f.1 : Int) 8) = decide (f.1 / 8 % 2 = 1) := by decide
theorem xor_b (a b : UInt8) : bits .xor .u8 (a.toNat : Int) (b.toNat : Int) = ((a ^^^ b).toNat : Int) := by
  have h1 := UInt8.toNat_lt a
  have h2 := UInt8.toNat_lt b
  have h3 := UInt8.toNat_lt (a ^^^ b)
  have e : (BitVec.ofInt 8 (a.toNat : Int) ^^^ BitVec.ofInt 8 (b.toNat : Int)).toNat = (a ^^^ b).toNat := by
    rw [BitVec.toNat_xor, UInt8.toNat_xor]
    simp only [BitVec.toNat_ofInt]
    congr 1 <;> omega
  show IntKind.u8.wrap ((BitVec.ofInt 8 (a.toNat : Int) ^^^ BitVec.ofInt 8 (b.toNat : Int)).toNat : Int) = _
  rw [e, wraps_u8 _ (by omega) (by omega)]
theorem Ex.xorB {a b : UInt8} (hx : ev fr x = some (.int .u8 (a.toNat : Int))) (hy : ev fr y = some (.int .u8 (b.toNat : Int))) : Ex P n w0 rs fr (.binOp .xor t x y t') ty (.int .u8 ((a ^^^ b).toNat : Int)) := by
  have := Ex.xor (P := P) (n := n) (w0 := w0) (rs := rs) (ty := ty) (t := t) (t' := t') hx hy
  rwa [xor_b] at this
end
end Go.Proofs.Ytfkgchdbjfbdaaa
