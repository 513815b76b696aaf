/-
  THE KIT OF MY OWN, TWENTY-THIRD PART: strings as lists of bytes; variables and rows of a run and 256 flags. Over any program; no condition.
-/
import Derived.Test.YtjfdpfjngajnlaaDoorKit20
namespace Go.Proofs.YtjfdpfjngajnlaaDoor
open Go.RowKit Go.Sort
set_option linter.unusedVariables false
set_option linter.unusedSimpArgs false

def sOf (l : List UInt8) : ByteArray := ⟨l.toArray⟩
theorem sOf_size (l : List UInt8) : (sOf l).size = l.length := by simp [sOf, ByteArray.size]
theorem sOf_inj {a b : List UInt8} : sOf a = sOf b ↔ a = b := by
  constructor
  · intro h
    have := congrArg (fun s : ByteArray => s.data.toList) h
    simpa [sOf] using this
  · intro h; rw [h]
theorem sOf_app (a b : List UInt8) : sOf a ++ sOf b = sOf (a ++ b) := by
  apply ByteArray.ext
  simp [sOf, ByteArray.data_append]
theorem sOf_ext (l : List UInt8) (a b : Nat) : (sOf l).extract a b = sOf ((l.drop a).take (b - a)) := by
  apply ByteArray.ext
  simp [sOf, ByteArray.data_extract]
/-- a part's cells -/
def eP (f : Nat → Bool) : List Value := (List.range 257).map fun i => .bool (f i)
def upd (f : Nat → Bool) (j : Nat) (v : Bool) : Nat → Bool := fun i => if i = j then v else f i
def noP : Nat → Bool := fun _ => false
instance : Inhabited (Nat → Bool) := ⟨noP⟩
theorem eP_len (f : Nat → Bool) : (eP f).length = 257 := by simp [eP]
theorem eP_at (f : Nat → Bool) (j : Nat) (h : j < 257) : (eP f)[j]? = some (.bool (f j)) := by
  unfold eP; rw [List.getElem?_map, List.getElem?_range h]; rfl
theorem eP_one (f : Nat → Bool) : ∀ u ∈ eP f, u.oneCell' = true := fun u hu => by
  obtain ⟨i, _, rfl⟩ := List.mem_map.1 hu; rfl
instance : Enc eP 257 := ⟨eP_len, eP_one⟩
theorem eP_set (f : Nat → Bool) (j : Nat) (v : Bool) : (eP f).set j (.bool v) = eP (upd f j v) := by
  apply List.ext_getElem?
  intro i
  rw [List.getElem?_set]
  by_cases h : i < 257
  · rw [eP_at _ i h, eP_at _ i h]
    by_cases e : j = i
    · subst e; rw [if_pos rfl, if_pos (by rw [eP_len]; exact h)]; simp [upd]
    · rw [if_neg e]; simp [upd, Ne.symm e]
  · rw [List.getElem?_eq_none (by rw [eP_len]; omega), List.getElem?_eq_none (by rw [eP_len]; omega)]
    split
    · rename_i e; subst e; rw [if_neg (by rw [eP_len]; omega)]
    · rfl
theorem eP_all (f : Nat → Bool) : (eP f).all (·.oneCell') = true := List.all_eq_true.2 (eP_one f)
theorem eP_put (f g : Nat → Bool) : (eP f).take 0 ++ eP g ++ (eP f).drop (0 + (eP g).length) = eP g := by
  rw [eP_len, List.take_zero, List.nil_append, List.drop_eq_nil_of_le (by rw [eP_len]; omega), List.append_nil]
theorem flat_oneP (f : Nat → Bool) : flat eP [f] = eP f := by simp [flat]

section
variable {P : Program} {ops : Array Oper} {Q : Exit → Act → World → Prop} {K : Act → Prop} {n : Nat} {ds : List Deferred} {w0 : World} {rest : List Oper} {fr : Slots} {rs rs' : List Res} {ty t tx t' : TypeId} {x y z : Operand} {pos : String} {after : Array Edge}
theorem Ex.lenO {l : List UInt8} [hU : Und P t .string] (hx : ev fr x = some (.string (sOf l))) : Ex P n w0 rs fr (.call ⟨.builtin .len, #[x], #[t]⟩) ty (.int .i64 (l.length : Int)) := by
  have := Ex.lenS (P := P) (n := n) (w0 := w0) (rs := rs) (ty := ty) (t := t) hx
  rwa [sOf_size] at this
theorem Ex.indexO {l : List UInt8} {k : Nat} {KK : IntKind} [hU : Und P t .string] (hx : ev fr x = some (.string (sOf l))) (hy : ev fr y = some (.int KK (k : Int))) (hk : k < l.length) : Ex P n w0 rs fr (.index t x y) ty (.int .u8 ((l.getD k 0).toNat : Int)) := by
  have := Ex.indexS (P := P) (n := n) (w0 := w0) (rs := rs) (ty := ty) (t := t) hx hy (by rw [sOf_size]; exact hk)
  simpa [sOf] using this
theorem Ex.subO {l : List UInt8} {a b : Nat} {lo hi : Option Operand} [hU : Und P t .string] (hx : ev fr x = some (.string (sOf l))) (hlo : (lo = none ∧ a = 0) ∨ ∃ z k, lo = some z ∧ ev fr z = some (.int k (a : Int))) (hhi : (hi = none ∧ b = l.length) ∨ ∃ z k, hi = some z ∧ ev fr z = some (.int k (b : Int))) (hlr : a ≤ b ∧ b ≤ l.length) :
    Ex P n w0 rs fr (.slice t x lo hi none) ty (.string (sOf ((l.drop a).take (b - a)))) := by
  have := Ex.subS (P := P) (n := n) (w0 := w0) (rs := rs) (ty := ty) (t := t) (l := a) (r := b) hx hlo (by rw [sOf_size]; exact hhi) (by rw [sOf_size]; exact hlr)
  rwa [sOf_ext] at this
theorem Ex.subLo {l : List UInt8} {a : Nat} {k : IntKind} [hU : Und P t .string] (hx : ev fr x = some (.string (sOf l))) (hz : ev fr z = some (.int k (a : Int))) (ha : a ≤ l.length) : Ex P n w0 rs fr (.slice t x (some z) none none) ty (.string (sOf (l.drop a))) := by
  have := Ex.subO (P := P) (n := n) (w0 := w0) (rs := rs) (ty := ty) (t := t) (a := a) (b := l.length) (lo := some z) (hi := none) hx (.inr ⟨z, k, rfl, hz⟩) (.inl ⟨rfl, rfl⟩) ⟨ha, Nat.le_refl _⟩
  rwa [List.take_of_length_le (by rw [List.length_drop]; exact Nat.le_refl _)] at this
theorem Ex.subHi {l : List UInt8} {b : Nat} {k : IntKind} [hU : Und P t .string] (hx : ev fr x = some (.string (sOf l))) (hz : ev fr z = some (.int k (b : Int))) (hb : b ≤ l.length) : Ex P n w0 rs fr (.slice t x none (some z) none) ty (.string (sOf (l.take b))) := by
  have := Ex.subO (P := P) (n := n) (w0 := w0) (rs := rs) (ty := ty) (t := t) (a := 0) (b := b) (lo := none) (hi := some z) hx (.inl ⟨rfl, rfl⟩) (.inr ⟨z, k, rfl, hz⟩) ⟨Nat.zero_le _, hb⟩
  rwa [List.drop_zero, Nat.sub_zero] at this
theorem Ex.subMid {l : List UInt8} {a b : Nat} {k k' : IntKind} {z' : Operand} [hU : Und P t .string] (hx : ev fr x = some (.string (sOf l))) (hz : ev fr z = some (.int k (a : Int))) (hz' : ev fr z' = some (.int k' (b : Int))) (hlr : a ≤ b ∧ b ≤ l.length) : Ex P n w0 rs fr (.slice t x (some z) (some z') none) ty (.string (sOf ((l.drop a).take (b - a)))) :=
  Ex.subO (P := P) (n := n) (w0 := w0) (rs := rs) (ty := ty) (t := t) (a := a) (b := b) (lo := some z) (hi := some z') hx (.inr ⟨z, k, rfl, hz⟩) (.inr ⟨z', k', rfl, hz'⟩) hlr
theorem Ex.addO {a b : List UInt8} (hx : ev fr x = some (.string (sOf a))) (hy : ev fr y = some (.string (sOf b))) (h : a.length + b.length ≤ 9223372036854775807) : Ex P n w0 rs fr (.binOp .add t x y t') ty (.string (sOf (a ++ b))) :=
  fun _ w _ _ _ _ hf _ => by
    have h2 : ((sOf a).size : Int) + ((sOf b).size : Int) ≤ 9223372036854775807 := by rw [sOf_size, sOf_size]; omega
    simp [execOp, hf.ev hx, hf.ev hy, eqGuard, binOp, Op.stringOp, sOf_app, h2]
theorem Ex.eqO {a b : List UInt8} (hx : ev fr x = some (.string (sOf a))) (hy : ev fr y = some (.string (sOf b))) : Ex P n w0 rs fr (.binOp .eql t x y t') ty (.bool (decide (a = b))) := by
  have := Ex.eqS (P := P) (n := n) (w0 := w0) (rs := rs) (ty := ty) (t := t) (t' := t') hx hy
  rwa [show decide (sOf a = sOf b) = decide (a = b) from decide_eq_decide.2 sOf_inj] at this
theorem Ex.neO {a b : List UInt8} (hx : ev fr x = some (.string (sOf a))) (hy : ev fr y = some (.string (sOf b))) : Ex P n w0 rs fr (.binOp .neq t x y t') ty (.bool (decide (¬ a = b))) := by
  have := Ex.neS (P := P) (n := n) (w0 := w0) (rs := rs) (ty := ty) (t := t) (t' := t') hx hy
  rwa [show decide (¬ sOf a = sOf b) = decide (¬ a = b) from decide_eq_decide.2 (not_congr sOf_inj)] at this
theorem eadr_badr (b j k : Nat) : eadr (some (badr b j)) k = badr b (j + k) := badr_add b j k
theorem eadr_eadr (ao : Option Addr) (j k : Nat) : eadr (some (eadr ao j)) k = eadr ao (j + k) := eadr_add ao j k
theorem Ex.indexPB {m e bytes k b j : Nat} {KK : IntKind} {zs : List Value} [hU : Und P t (.array m e)] [hI : Inf P e 1 bytes zs] (hx : ev fr x = some (.pointer (some (badr b j)))) (hy : ev fr y = some (.int KK (k : Int))) (hk : k < m) : Ex P n w0 rs fr (.indexAddr t x y) ty (.pointer (some (badr b (j + k)))) := by
  have := Ex.indexArr (P := P) (n := n) (w0 := w0) (rs := rs) (ty := ty) (t := t) hx hy hk
  rwa [Nat.mul_one, eadr_badr] at this
theorem Ex.indexPE {m e bytes k j : Nat} {ao : Option Addr} {KK : IntKind} {zs : List Value} [hU : Und P t (.array m e)] [hI : Inf P e 1 bytes zs] (hx : ev fr x = some (.pointer (some (eadr ao j)))) (hy : ev fr y = some (.int KK (k : Int))) (hk : k < m) : Ex P n w0 rs fr (.indexAddr t x y) ty (.pointer (some (eadr ao (j + k)))) := by
  have := Ex.indexArr (P := P) (n := n) (w0 := w0) (rs := rs) (ty := ty) (t := t) hx hy hk
  rwa [Nat.mul_one, eadr_eadr] at this
theorem Ex.loadP {b j : Nat} {f : Nat → Bool} [hS : Sca P t] (h : ev fr x = some (.pointer (some (badr b j)))) [hB : BlkAt rs b t' (eP f)] (hj : j < 257) : Ex P n w0 rs fr (.load t x) ty (.bool (f j)) :=
  Ex.loadB h (eP_at f j hj)
theorem Ex.loadPW {b bytes : Nat} {zs : List Value} {f : Nat → Bool} [hA : Agg P t] [hI : Inf P t 257 bytes zs] (h : ev fr x = some (.pointer (some (badr b 0)))) [hB : BlkAt rs b t' (eP f)] : Ex P n w0 rs fr (.load t x) ty (.agg (eP f).toArray) :=
  Ex.loadBA h (by rw [List.drop_zero, List.take_of_length_le (by rw [eP_len]; exact Nat.le_refl _)]) (eP_len f)
theorem Ex.loadRP {l : List (Nat → Bool)} {i j : Nat} {ao : Option Addr} [hS : Sca P t] (h : ev fr x = some (.pointer (some (eadr ao (i * 257 + j))))) [hB : CelAt rs ao (flat eP l)] (hi : i < l.length) (hj : j < 257) : Ex P n w0 rs fr (.load t x) ty (.bool ((l.getD i default) j)) :=
  Ex.loadT h hi (eP_at _ j hj)
theorem G.storeP {b j bytes : Nat} {v : Bool} {zs : List Value} {f : Nat → Bool} {t1 : TypeId} [hI : Inf P t 1 bytes zs] (hx : ev fr x = some (.pointer (some (badr b j)))) (hy : ev fr y = some (.bool v)) (hj : j < 257) (hu : Upd rs (.blk b t1 (eP f)) (.blk b t1 (eP (upd f j v))) rs') (k : @G P ops Q n ds w0 rest fr rs') : @G P ops Q n ds w0 (⟨none, .store t x y, ty, pos, after, none⟩ :: rest) fr rs := by
  rw [← eP_set] at hu
  exact G.storeB (v := .bool v) (cs := eP f) (hB := ⟨⟨t1, hu⟩⟩) hx hy rfl rfl (by rw [eP_len, Nat.blt_eq]; exact hj) k
theorem G.storePW {b bytes : Nat} {zs : List Value} {f g : Nat → Bool} {t1 : TypeId} [hI : Inf P t 257 bytes zs] (hx : ev fr x = some (.pointer (some (badr b 0)))) (hy : ev fr y = some (.agg (eP g).toArray)) (hu : Upd rs (.blk b t1 (eP f)) (.blk b t1 (eP g)) rs') (k : @G P ops Q n ds w0 rest fr rs') : @G P ops Q n ds w0 (⟨none, .store t x y, ty, pos, after, none⟩ :: rest) fr rs := by
  rw [← eP_put f g] at hu
  exact G.storeBA (vs := eP g) (cs := eP f) (hB := ⟨⟨t1, hu⟩⟩) hx hy (eP_len g) (eP_all g) (by rw [eP_len, eP_len]; rfl) k
theorem G.litP {d e bytes : Nat} {zs : List Value} {f : Nat → Bool} {px : Operand} [hU : Und P t (.slice e)] [hI : Inf P e 257 bytes zs] (hx : ev fr px = some (.agg (eP f).toArray)) (hz : zs = eP noP) (hd : Nat.blt d n = true)
    (k : ∀ ao, @G P ops Q n ds w0 rest ((d, .slice ao 1 1) :: fr) (.vec e 257 ao 1 1 (flat eP [f]) :: rs)) : @G P ops Q n ds w0 (⟨some d, .buildSlice t 1 [(0, px)].toArray, ty, pos, after, none⟩ :: rest) fr rs := by
  subst hz
  refine G.lit (vals := [(0, .agg (eP f).toArray)]) (cells := eP f) (by simp [evp, hx]) ?_ (eP_len _) (by rfl) (by rw [eP_len]) (by rfl) (eP_all f) hd (fun ao => ?_)
  · have hc : (Value.agg (eP f).toArray).cells.toList = eP f := by simp [Value.cells]
    have hp : ∀ (vs cs : List Value) (j : Nat) (pre : List Value), cs.length = pre.length + vs.length → j = pre.length → cs.take j = pre → putL cs j vs = pre ++ vs := by
      intro vs
      induction vs with
      | nil => intro cs j pre h1 h2 h3; rw [putL, List.append_nil, ← h3, List.take_of_length_le (by simp at h1; omega)]
      | cons v vs ih =>
        intro cs j pre h1 h2 h3
        simp only [List.length_cons] at h1
        rw [putL, ih (cs.set j v) (j + 1) (pre ++ [v]) (by simp; omega) (by simp [h2]) ?_]
        · simp
        · rw [List.take_succ_eq_append_getElem (by simp; omega)]
          simp [List.take_set, h3]
          rw [← h3, List.set_eq_of_length_le (by rw [List.length_take]; omega)]
    simp only [cellsOf2, fillL, zrep, hc, eP_len, List.append_nil, Nat.zero_mul]
    rw [if_pos (by rfl), hp (eP f) (eP noP) 0 [] (by rw [eP_len, eP_len]; rfl) rfl rfl]
    rfl
  · rw [← flat_oneP]; exact k ao
end
end Go.Proofs.YtjfdpfjngajnlaaDoor
