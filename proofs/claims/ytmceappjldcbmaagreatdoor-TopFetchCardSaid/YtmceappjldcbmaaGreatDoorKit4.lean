/-
  THE KIT OF MY OWN, FOURTH PART: numbers, comparisons, indexes, strings: what an operation yields. Over any program; no condition.
-/
import Derived.Test.YtmceappjldcbmaaGreatDoorKit3
namespace Go.Proofs.YtmceappjldcbmaaGreatDoor
open Go.RowKit Go.Sort
set_option linter.unusedVariables false
set_option linter.unusedSimpArgs false

/-- a list of data as cells -/
def flat {α : Type} (enc : α → List Value) (l : List α) : List Value := l.flatMap enc
class Enc {α : Type} (enc : α → List Value) (s : outParam Nat) : Prop where
  len : ∀ x, (enc x).length = s
  one : ∀ x, ∀ u ∈ enc x, u.oneCell' = true
def eI (k : IntKind) (x : Int) : List Value := [.int k x]
instance (k : IntKind) : Enc (eI k) 1 := ⟨fun _ => rfl, fun x u hu => by simp [eI] at hu; subst hu; rfl⟩
theorem flat_append {α : Type} (enc : α → List Value) (l m : List α) : flat enc (l ++ m) = flat enc l ++ flat enc m := by simp [flat]
theorem flat_one {α : Type} (enc : α → List Value) (x : α) : flat enc [x] = enc x := by simp [flat]
theorem flat_len {α : Type} {enc : α → List Value} {s : Nat} (h : Enc enc s) (l : List α) : (flat enc l).length = l.length * s := by
  induction l with
  | nil => simp [flat]
  | cons x l ih => simp [flat, h.len] at ih ⊢; rw [ih, Nat.add_mul]; omega
theorem flat_one' {α : Type} {enc : α → List Value} {s : Nat} (h : Enc enc s) (l : List α) : ∀ u ∈ flat enc l, u.oneCell' = true := by
  intro u hu
  obtain ⟨x, _, hx⟩ := List.mem_flatMap.1 hu
  exact h.one x u hx
theorem flat_at {α : Type} [Inhabited α] {enc : α → List Value} {s : Nat} (h : Enc enc s) : ∀ (l : List α) (k j : Nat), k < l.length → j < s → (flat enc l)[k * s + j]? = (enc (l.getD k default))[j]?
  | [], k, j, hk, _ => by simp at hk
  | x :: l, 0, j, _, hj => by
    show (enc x ++ flat enc l)[0 * s + j]? = _
    rw [Nat.zero_mul, Nat.zero_add, List.getElem?_append_left (by rw [h.len]; exact hj)]; rfl
  | x :: l, k + 1, j, hk, hj => by
    have ih := flat_at h l k j (by simpa using hk) hj
    show (enc x ++ flat enc l)[(k + 1) * s + j]? = _
    rw [List.getElem?_append_right (by rw [h.len, Nat.add_mul]; omega), h.len, show (k + 1) * s + j - s = k * s + j by rw [Nat.add_mul]; omega, ih]; rfl
theorem flat_take {α : Type} {enc : α → List Value} {s : Nat} (h : Enc enc s) : ∀ (l : List α) (k : Nat), (flat enc l).take (k * s) = flat enc (l.take k)
  | [], k => by simp [flat]
  | x :: l, 0 => by simp [flat]
  | x :: l, k + 1 => by
    have ih := flat_take h l k
    show (enc x ++ flat enc l).take ((k + 1) * s) = enc x ++ flat enc (l.take k)
    rw [List.take_append, h.len, List.take_of_length_le (by rw [h.len, Nat.add_mul]; omega), show (k + 1) * s - s = k * s by rw [Nat.add_mul]; omega, ih]
theorem flat_drop {α : Type} {enc : α → List Value} {s : Nat} (h : Enc enc s) : ∀ (l : List α) (k : Nat), (flat enc l).drop (k * s) = flat enc (l.drop k)
  | [], k => by simp [flat]
  | x :: l, 0 => by simp
  | x :: l, k + 1 => by
    have ih := flat_drop h l k
    show (enc x ++ flat enc l).drop ((k + 1) * s) = flat enc (l.drop k)
    rw [List.drop_append, h.len, List.drop_of_length_le (by rw [h.len, Nat.add_mul]; omega), show (k + 1) * s - s = k * s by rw [Nat.add_mul]; omega, ih]; rfl

theorem i64_in (n : Int) (h : -9223372036854775808 ≤ n ∧ n ≤ 9223372036854775807) : IntKind.i64.wrap n = n := by rw [IntKind.wrap_i64]; omega

section
variable {P : Program} {n : Nat} {ds : List Deferred} {w0 : World} {rs : List Res} {fr : Slots} {ty t t' : TypeId} {x y : Operand}

theorem Ex.add {a b : Int} (hx : ev fr x = some (.int .i64 a)) (hy : ev fr y = some (.int .i64 b)) (h : -9223372036854775808 ≤ a + b ∧ a + b ≤ 9223372036854775807) : Ex P n w0 rs fr (.binOp .add t x y t') ty (.int .i64 (a + b)) :=
  fun _ w _ _ _ _ hf _ => by simp [execOp, hf.ev hx, hf.ev hy, eqGuard, binOp, Op.intArith, i64_in _ h]
theorem Ex.sub {a b : Int} (hx : ev fr x = some (.int .i64 a)) (hy : ev fr y = some (.int .i64 b)) (h : -9223372036854775808 ≤ a - b ∧ a - b ≤ 9223372036854775807) : Ex P n w0 rs fr (.binOp .sub t x y t') ty (.int .i64 (a - b)) :=
  fun _ w _ _ _ _ hf _ => by simp [execOp, hf.ev hx, hf.ev hy, eqGuard, binOp, Op.intArith, i64_in _ h]
theorem Ex.mul {a b : Int} (hx : ev fr x = some (.int .i64 a)) (hy : ev fr y = some (.int .i64 b)) (h : -9223372036854775808 ≤ a * b ∧ a * b ≤ 9223372036854775807) : Ex P n w0 rs fr (.binOp .mul t x y t') ty (.int .i64 (a * b)) :=
  fun _ w _ _ _ _ hf _ => by simp [execOp, hf.ev hx, hf.ev hy, eqGuard, binOp, Op.intArith, i64_in _ h]
theorem Ex.quo {a b : Int} (hx : ev fr x = some (.int .i64 a)) (hy : ev fr y = some (.int .i64 b)) (h : 0 ≤ a ∧ a ≤ 9223372036854775807 ∧ 0 < b) : Ex P n w0 rs fr (.binOp .quo t x y t') ty (.int .i64 (a / b)) :=
  fun _ w _ _ _ _ hf _ => by
    have h0 : b ≠ 0 := by omega
    have h1 : a.tdiv b = a / b := Int.tdiv_eq_ediv_of_nonneg h.1
    have h2 : 0 ≤ a / b := Int.ediv_nonneg h.1 (by omega)
    have h3 : a / b ≤ a := Int.ediv_le_self _ h.1
    simp [execOp, hf.ev hx, hf.ev hy, eqGuard, binOp, Op.intDiv, h0, h1, i64_in (a / b) ⟨by omega, by omega⟩]
theorem Ex.rem {k : IntKind} {a b : Int} (hx : ev fr x = some (.int k a)) (hy : ev fr y = some (.int k b)) (h : 0 ≤ a ∧ 0 < b) : Ex P n w0 rs fr (.binOp .rem t x y t') ty (.int k (a % b)) :=
  fun _ w _ _ _ _ hf _ => by
    have h0 : b ≠ 0 := by omega
    have h1 : a.tmod b = a % b := Int.tmod_eq_emod_of_nonneg h.1
    simp [execOp, hf.ev hx, hf.ev hy, eqGuard, binOp, Op.intDiv, h0, h1]
theorem Ex.remt {k : IntKind} {a b : Int} (hx : ev fr x = some (.int k a)) (hy : ev fr y = some (.int k b)) (h : b ≠ 0) : Ex P n w0 rs fr (.binOp .rem t x y t') ty (.int k (a.tmod b)) :=
  fun _ w _ _ _ _ hf _ => by simp [execOp, hf.ev hx, hf.ev hy, eqGuard, binOp, Op.intDiv, h]
theorem Ex.and {k : IntKind} {a b : Int} (hx : ev fr x = some (.int k a)) (hy : ev fr y = some (.int k b)) : Ex P n w0 rs fr (.binOp .and t x y t') ty (.int k (bits .and k a b)) :=
  fun _ w _ _ _ _ hf _ => by cases k <;> simp [execOp, hf.ev hx, hf.ev hy, eqGuard, binOp, Op.intBits, bits]
theorem Ex.lss {k : IntKind} {a b : Int} (hx : ev fr x = some (.int k a)) (hy : ev fr y = some (.int k b)) : Ex P n w0 rs fr (.binOp .lss t x y t') ty (.bool (decide (a < b))) :=
  fun _ w _ _ _ _ hf _ => by simp [execOp, hf.ev hx, hf.ev hy, eqGuard, binOp, Op.intCmp]
theorem Ex.leq {k : IntKind} {a b : Int} (hx : ev fr x = some (.int k a)) (hy : ev fr y = some (.int k b)) : Ex P n w0 rs fr (.binOp .leq t x y t') ty (.bool (decide (a ≤ b))) :=
  fun _ w _ _ _ _ hf _ => by simp [execOp, hf.ev hx, hf.ev hy, eqGuard, binOp, Op.intCmp]
theorem Ex.gtr {k : IntKind} {a b : Int} (hx : ev fr x = some (.int k a)) (hy : ev fr y = some (.int k b)) : Ex P n w0 rs fr (.binOp .gtr t x y t') ty (.bool (decide (b < a))) :=
  fun _ w _ _ _ _ hf _ => by simp [execOp, hf.ev hx, hf.ev hy, eqGuard, binOp, Op.intCmp]
theorem Ex.geq {k : IntKind} {a b : Int} (hx : ev fr x = some (.int k a)) (hy : ev fr y = some (.int k b)) : Ex P n w0 rs fr (.binOp .geq t x y t') ty (.bool (decide (b ≤ a))) :=
  fun _ w _ _ _ _ hf _ => by simp [execOp, hf.ev hx, hf.ev hy, eqGuard, binOp, Op.intCmp]
theorem Ex.eqI {k : IntKind} {a b : Int} (hx : ev fr x = some (.int k a)) (hy : ev fr y = some (.int k b)) : Ex P n w0 rs fr (.binOp .eql t x y t') ty (.bool (decide (a = b))) :=
  fun _ w _ _ _ _ hf _ => by simp [execOp, hf.ev hx, hf.ev hy, eqGuard, binOp, Op.intCmp]; rfl
theorem Ex.neI {k : IntKind} {a b : Int} (hx : ev fr x = some (.int k a)) (hy : ev fr y = some (.int k b)) : Ex P n w0 rs fr (.binOp .neq t x y t') ty (.bool (decide (¬ a = b))) :=
  fun _ w _ _ _ _ hf _ => by simp [execOp, hf.ev hx, hf.ev hy, eqGuard, binOp, Op.intCmp]; rfl
theorem bytes_eq (s u : ByteArray) : (s.toList == u.toList) = decide (s = u) := by
  have e : ∀ s : ByteArray, s.toList = s.data.toList := ByteArray.toList_eq
  by_cases h : s = u
  · subst h; simp
  · have : s.toList ≠ u.toList := fun h' => h (by rw [e, e] at h'; exact ByteArray.ext (Array.ext' h'))
    simp [h, this]
theorem Ex.eqS {a b : ByteArray} (hx : ev fr x = some (.string a)) (hy : ev fr y = some (.string b)) : Ex P n w0 rs fr (.binOp .eql t x y t') ty (.bool (decide (a = b))) :=
  fun _ w _ _ _ _ hf _ => by simp [execOp, hf.ev hx, hf.ev hy, eqGuard, binOp, Op.stringOp, bytes_eq]
theorem Ex.neS {a b : ByteArray} (hx : ev fr x = some (.string a)) (hy : ev fr y = some (.string b)) : Ex P n w0 rs fr (.binOp .neq t x y t') ty (.bool (decide (¬ a = b))) :=
  fun _ w _ _ _ _ hf _ => by simp [execOp, hf.ev hx, hf.ev hy, eqGuard, binOp, Op.stringOp, bytes_eq]
theorem Ex.notD {p : Prop} {_ : Decidable p} (hx : ev fr x = some (.bool (decide p))) : Ex P n w0 rs fr (.unOp .not t x) ty (.bool (decide (¬ p))) :=
  fun _ w _ _ _ _ hf _ => by simp [execOp, hf.ev hx, Op.unary]
theorem Ex.notB {b : Bool} (hx : ev fr x = some (.bool b)) : Ex P n w0 rs fr (.unOp .not t x) ty (.bool (decide (¬ b = true))) :=
  fun _ w _ _ _ _ hf _ => by cases b <;> simp [execOp, hf.ev hx, Op.unary]
theorem Ex.min {k : IntKind} {a b : Int} (hx : ev fr x = some (.int k a)) (hy : ev fr y = some (.int k b)) : Ex P n w0 rs fr (.call ⟨.builtin .min, #[x, y], #[t, t']⟩) ty (.int k (min a b)) :=
  fun _ w _ _ _ _ hf _ => by
    have : (if b < a then b else a) = Min.min a b := by omega
    simp [execOp, hf.ev hx, hf.ev hy, resolve, invoke, builtin, Builtin.min_, Builtin.min2, this]
theorem Ex.max {k : IntKind} {a b : Int} (hx : ev fr x = some (.int k a)) (hy : ev fr y = some (.int k b)) : Ex P n w0 rs fr (.call ⟨.builtin .max, #[x, y], #[t, t']⟩) ty (.int k (max a b)) :=
  fun _ w _ _ _ _ hf _ => by
    have : (if a < b then b else a) = Max.max a b := by omega
    simp [execOp, hf.ev hx, hf.ev hy, resolve, invoke, builtin, Builtin.max_, Builtin.max2, this]
theorem Ex.conv {src dst : TypeId} {k k' kk : IntKind} {a : Int} [hU : Und P src (.int kk)] [hV : Und P dst (.int k')] (hx : ev fr x = some (.int k a)) : Ex P n w0 rs fr (.convert src dst x) ty (.int k' (k'.wrap a)) :=
  fun _ w _ _ _ _ hf _ => by simp [execOp, hf.ev hx, convert, run_underlying hU.und, run_underlying hV.und, Conv.intToInt]
theorem Ex.lenSl {e : TypeId} {ao : Option Addr} {m c : Nat} [hU : Und P t (.slice e)] (hx : ev fr x = some (.slice ao m c)) : Ex P n w0 rs fr (.call ⟨.builtin .len, #[x], #[t]⟩) ty (.int .i64 (m : Int)) :=
  fun _ w _ _ _ _ hf _ => by simp [execOp, hf.ev hx, resolve, invoke, builtin, Builtin.len_, run_underlying hU.und, goInt]
theorem Ex.lenS {s : ByteArray} [hU : Und P t .string] (hx : ev fr x = some (.string s)) : Ex P n w0 rs fr (.call ⟨.builtin .len, #[x], #[t]⟩) ty (.int .i64 (s.size : Int)) :=
  fun _ w _ _ _ _ hf _ => by simp [execOp, hf.ev hx, resolve, invoke, builtin, Builtin.len_, run_underlying hU.und, goInt]
theorem Ex.extract {i : Nat} {vs : Array Value} {v : Value} (hx : ev fr x = some (.tuple vs)) (hi : vs.toList[i]? = some v) : Ex P n w0 rs fr (.extract x i) ty v :=
  fun _ w _ _ _ _ hf _ => by
    have hi' : vs[i]? = some v := by simpa using hi
    simp [execOp, hf.ev hx, Instr.extract, hi']
theorem Ex.indexN {e size bytes m c k : Nat} {K : IntKind} {zs xs : List Value} {ao : Option Addr} {sz : Nat} [hU : Und P t (.slice e)] [hI : Inf P e size bytes zs] (hx : ev fr x = some (.slice ao m c)) (hy : ev fr y = some (.int K (k : Int)))
    [hR : SlAt rs ao m c sz xs] (hk : k < m) : Ex P n w0 rs fr (.indexAddr t x y) ty (.pointer (some (eadr ao (k * size)))) :=
  fun _ w _ _ _ _ hf hw => by
    obtain ⟨b, o, rfl, _, _⟩ := (hR.get hw).get (by omega)
    have h2 : (0 : Int) ≤ (k : Int) := by omega
    simp [execOp, hf.ev hx, hf.ev hy, Instr.indexAt, asIntOf, run_underlying hU.und, Sem.run_bind, sizeOf_run hI, h2, eadr]
    intro hh
    omega
theorem Ex.indexI {e size bytes m c : Nat} {j : Int} {K : IntKind} {zs xs : List Value} {ao : Option Addr} {sz : Nat} [hU : Und P t (.slice e)] [hI : Inf P e size bytes zs] (hx : ev fr x = some (.slice ao m c)) (hy : ev fr y = some (.int K j))
    [hR : SlAt rs ao m c sz xs] (hk : 0 ≤ j ∧ j < m) : Ex P n w0 rs fr (.indexAddr t x y) ty (.pointer (some (eadr ao (j.toNat * size)))) :=
  fun _ w _ _ _ _ hf hw => by
    obtain ⟨b, o, rfl, _, _⟩ := (hR.get hw).get (by omega)
    have h1 := hk.2
    have h2 := hk.1
    simp [execOp, hf.ev hx, hf.ev hy, Instr.indexAt, asIntOf, run_underlying hU.und, Sem.run_bind, sizeOf_run hI, h1, h2, eadr]
theorem Ex.indexS {s : ByteArray} {k : Nat} {K : IntKind} [hU : Und P t .string] (hx : ev fr x = some (.string s)) (hy : ev fr y = some (.int K (k : Int))) (hk : k < s.size) : Ex P n w0 rs fr (.index t x y) ty (.int .u8 ((s.data.toList.getD k 0).toNat : Int)) :=
  fun _ w _ _ _ _ hf hw => by
    have h2 : (0 : Int) ≤ (k : Int) := by omega
    have h3 : s[k]? = some (s.data.toList.getD k 0) := by
      rw [ByteArray.getElem?_lt' s k hk]
      have : k < s.data.toList.length := by simpa using hk
      rw [List.getD_eq_getElem?_getD, List.getElem?_eq_getElem this]; rfl
    simp [execOp, hf.ev hx, hf.ev hy, Instr.index, asIntOf, run_underlying hU.und, h3, h2]
/-- one cell of one datum of a row -/
theorem Ex.loadT {α : Type} [Inhabited α] {enc : α → List Value} {l : List α} {s k j : Nat} {ao : Option Addr} {v : Value} [hS : Sca P t] (h : ev fr x = some (.pointer (some (eadr ao (k * s + j))))) [hB : CelAt rs ao (flat enc l)] [hE : Enc enc s] (hk : k < l.length)
    (hj : (enc (l.getD k default))[j]? = some v) : Ex P n w0 rs fr (.load t x) ty v := by
  refine Ex.loadE h ?_
  have hlt := (List.getElem?_eq_some_iff.1 hj).1
  rw [hE.len] at hlt
  rw [flat_at hE l k j hk hlt]; exact hj
theorem Ex.loadT0 {α : Type} [Inhabited α] {enc : α → List Value} {l : List α} {s k : Nat} {ao : Option Addr} {v : Value} [hS : Sca P t] (h : ev fr x = some (.pointer (some (eadr ao (k * s))))) [hB : CelAt rs ao (flat enc l)] [hE : Enc enc s] (hk : k < l.length)
    (hj : (enc (l.getD k default))[0]? = some v) : Ex P n w0 rs fr (.load t x) ty v := by
  refine Ex.loadE h ?_
  have hlt := (List.getElem?_eq_some_iff.1 hj).1
  rw [hE.len] at hlt
  have := flat_at hE l k 0 hk hlt
  rw [Nat.add_zero] at this
  rw [this]; exact hj
end
end Go.Proofs.YtmceappjldcbmaaGreatDoor
