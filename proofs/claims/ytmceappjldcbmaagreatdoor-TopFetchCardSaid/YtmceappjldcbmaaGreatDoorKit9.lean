/-
  THE KIT OF MY OWN, NINTH PART: two structs held against each other; bytes. Over any program; no condition.
-/
import Derived.Test.YtmceappjldcbmaaGreatDoorKit8
namespace Go.Proofs.YtmceappjldcbmaaGreatDoor
open Go.RowKit Go.Sort
set_option linter.unusedVariables false
set_option linter.unusedSimpArgs false

/-- two cells of numbers (0), Booleans (1) or strings (2) -/
def eqC : Nat → Value → Value → Option Bool
  | 0, .int k a, .int k' b => if k = k' then some (decide (a = b)) else none
  | 1, .bool a, .bool b => some (decide (a = b))
  | 2, .string a, .string b => some (decide (a = b))
  | _, _, _ => none
def eqCs : List (Nat × Nat) → List Value → List Value → Option Bool
  | [], _, _ => some true
  | (o, g) :: r, xs, ys => match xs[o]?, ys[o]? with
    | some x, some y => match eqC g x y, eqCs r xs ys with
      | some b, some c => some (b && c)
      | _, _ => none
    | _, _ => none
def fieldTag (P : Program) (f : Field) : Nat := match P.underlying f.type with | some (.int _) => 0 | some .bool => 1 | some .string => 2 | _ => 3
class SEq (P : Program) (t : TypeId) (offs : outParam (List (Nat × Nat))) : Prop where
  und : P.underlying t = some (.struct (P.fieldsOf t))
  stood : P.stoodInHeld t = false
  guard : P.eqGuardType P.depth t = false
  offs : (P.fieldsOf t).toList.map (fun f => (f.offset, fieldTag P f)) = offs
  ok : (P.fieldsOf t).toList.all (fun f => f.name != "_") = true
theorem eqC_run {P : Program} {f : Field} {x y : Value} {b : Bool} (he : eqC (fieldTag P f) x y = some b) (w : World) (d : Nat) : (Op.equalIn (d + 1) f.type x y).run P w = .ok b w ∧ (isAgg f.type).run P default = .ok false default := by
  unfold fieldTag at he
  cases hu : P.underlying f.type with
  | none => rw [hu] at he; simp [eqC] at he
  | some td =>
    have hag : (match td with | .struct _ | .array _ _ => true | _ => false) = false → (isAgg f.type).run P default = .ok false default := by
      intro h
      cases td <;> simp_all [isAgg, run_underlying hu]
    rw [hu] at he
    cases td with
    | int kk =>
      refine ⟨?_, hag rfl⟩
      cases x <;> cases y <;> simp only [eqC] at he <;> try cases he
      split at he
      · rename_i hk; subst hk
        rw [run_equalIn_int w d _ _ kk _ _ hu, ← Option.some.inj he]; rfl
      · cases he
    | bool =>
      refine ⟨?_, hag rfl⟩
      cases x <;> cases y <;> simp only [eqC] at he <;> try cases he
      rename_i a a'
      rw [run_equalIn_bool' w d _ _ _ hu]
      cases a <;> cases a' <;> rfl
    | string =>
      refine ⟨?_, hag rfl⟩
      cases x <;> cases y <;> simp only [eqC] at he <;> try cases he
      rw [run_equalIn_string w d _ _ _ hu, bytes_eq]
    | _ => simp [eqC] at he
theorem eqFields_run {P : Program} (xs ys : List Value) (d : Nat) : ∀ (fs : List Field) (b : Bool) (w : World), (fs.all fun f => f.name != "_") = true → eqCs (fs.map fun f => (f.offset, fieldTag P f)) xs ys = some b → (Op.eqFields (d + 1) xs.toArray ys.toArray fs).run P w = .ok b w
  | [], b, w, _, h => by simp [eqCs] at h; simp [Op.eqFields, h]
  | f :: fs, b, w, hn, h => by
    simp only [List.all_cons, Bool.and_eq_true, bne_iff_ne] at hn
    simp only [List.map_cons, eqCs] at h
    cases ex : xs[f.offset]? with
    | none => rw [ex] at h; simp at h
    | some x =>
      cases ey : ys[f.offset]? with
      | none => rw [ex, ey] at h; simp at h
      | some y =>
        rw [ex, ey] at h
        simp only at h
        cases e1 : eqC (fieldTag P f) x y with
        | none => rw [e1] at h; simp at h
        | some b1 =>
          cases e2 : eqCs (fs.map fun f => (f.offset, fieldTag P f)) xs ys with
          | none => rw [e1, e2] at h; simp at h
          | some b2 =>
            rw [e1, e2] at h
            simp only [Option.some.injEq] at h
            obtain ⟨r1, r2⟩ := eqC_run e1 w d
            have r3 := eqFields_run xs ys d fs b2 w hn.2 e2
            have hag := isAgg_run r2
            cases b1
            · simp only [Bool.false_and] at h
              simp [Op.eqFields, hn.1, part, hag, ex, ey, r1, ← h]
            · simp only [Bool.true_and] at h
              simp [Op.eqFields, hn.1, part, hag, ex, ey, r1, r3, h]
section
variable {P : Program} {n : Nat} {ds : List Deferred} {w0 : World} {rs : List Res} {fr : Slots} {ty t t' : TypeId} {x y : Operand}
theorem Ex.eqA {offs : List (Nat × Nat)} {xs ys : List Value} {b : Bool} [hE : SEq P t offs] (hx : ev fr x = some (.agg xs.toArray)) (hy : ev fr y = some (.agg ys.toArray)) (h : eqCs offs xs ys = some b) : Ex P n w0 rs fr (.binOp .eql t x y t') ty (.bool b) :=
  fun _ w _ _ _ _ hf _ => by
    have hr := eqFields_run (P := P) xs ys 9998 _ b w hE.ok (by rw [hE.offs]; exact h)
    have h2 := run_equalIn_struct (P := P) w 9999 t xs.toArray ys.toArray hE.und hE.stood
    have h3 := run_eqGuard_agg (P := P) w .eql t x y xs.toArray ys.toArray hE.guard
    simp only [execOp, hf.ev hx, hf.ev hy, Sem.run_bind, h3, Result.andThen_ok, run_eql_struct]
    rw [show (10000 : Nat) = 9999 + 1 from rfl, h2, hr]; rfl
end

/-- a byte as a cell -/
def eB (x : UInt8) : List Value := [.int .u8 (x.toNat : Int)]
instance : Enc eB 1 := ⟨fun _ => rfl, fun x u hu => by simp [eB] at hu; subst hu; rfl⟩
def bytesOf (zs : List Int) : List UInt8 := zs.map fun z => UInt8.ofNat z.toNat
end Go.Proofs.YtmceappjldcbmaaGreatDoor
