/-
  THE KIT OF MY OWN, NINTH PART: two structs held against each other; bytes. Over any program; no condition.
-/
import Derived.Test.YtmceappjldcbmaaDoorKit8
namespace Go.Proofs.YtmceappjldcbmaaDoor
open Go.RowKit Go.Sort
set_option linter.unusedVariables false
set_option linter.unusedSimpArgs false

/-- two cells of numbers (0), Booleans (1) or strings (2) -/
def eqC : Nat → Value → Value → Option Bool
  | 0, .int k a, .int k' b => if k = k' then some (decide (a = b)) else none
  | 1, .bool a, .bool b => some (decide (a = b))
  | 2, .string a, .string b => some (decide (a = b))
  | _, _, _ => none
def eqCs : List (Nat × Nat) → List Value → List Value → Option Bool
  | [], _, _ => some true
  | (o, g) :: r, xs, ys => match xs[o]?, ys[o]? with
    | some x, some y => match eqC g x y, eqCs r xs ys with
      | some b, some c => some (b && c)
      | _, _ => none
    | _, _ => none
def fieldTag (P : Program) (f : Field) : Nat := match P.underlying f.type with | some (.int _) => 0 | some .bool => 1 | some .string => 2 | _ => 3
class SEq (P : Program) (t : TypeId) (offs : outParam (List (Nat × Nat))) : Prop where
  und : P.underlying t = some (.struct (P.fieldsOf t))
  stood : P.stoodInHeld t = false
  guard : P.eqGuardType P.depth t = false
  offs : (P.fieldsOf t).toList.map (fun f => (f.offset, fieldTag P f)) = offs
  ok : (P.fieldsOf t).toList.all (fun f => f.name != "_") = true
section
variable {P : Program} {n : Nat} {ds : List Deferred} {w0 : World} {rs : List Res} {fr : Slots} {ty t t' : TypeId} {x y : Operand}
end

/-- a byte as a cell -/
def eB (x : UInt8) : List Value := [.int .u8 (x.toNat : Int)]
instance : Enc eB 1 := ⟨fun _ => rfl, fun x u hu => by simp [eB] at hu; subst hu; rfl⟩
def bytesOf (zs : List Int) : List UInt8 := zs.map fun z => UInt8.ofNat z.toNat
theorem bytesOf_len (zs : List Int) : (bytesOf zs).length = zs.length := by simp [bytesOf]
theorem bd_u8 {a : Int} (h : (Lit.int .u8 a).wf = true) : 0 ≤ a ∧ a ≤ 255 := by
  simpa [Lit.wf, IntKind.min, IntKind.max, IntKind.signed, IntKind.bits] using h
theorem flat_bytesOf (zs : List Int) (h : ∀ z ∈ zs, 0 ≤ z ∧ z ≤ 255) : flat eB (bytesOf zs) = flat (eI .u8) zs := by
  induction zs with
  | nil => rfl
  | cons z zs ih =>
    have hz := h z (List.mem_cons_self ..)
    have e : ((UInt8.ofNat z.toNat).toNat : Int) = z := by
      rw [UInt8.toNat_ofNat']; omega
    show eB (UInt8.ofNat z.toNat) ++ flat eB (bytesOf zs) = eI .u8 z ++ flat (eI .u8) zs
    rw [ih fun z hz => h z (List.mem_cons_of_mem _ hz), eB, e]; rfl
theorem Holds.argB {w : World} {rs : List Res} (H : Holds w w rs) {a : Option Addr} {len cap : Nat} {zs : List Int} (h : IsRow .u8 w a len cap zs) : Holds w w (.sl a len cap 1 (flat eB (bytesOf (zs.take len))) :: rs) := by
  rw [flat_bytesOf _ (fun z hz => bd_u8 (h.bound.2.2 z hz))]
  exact H.arg h
end Go.Proofs.YtmceappjldcbmaaDoor
