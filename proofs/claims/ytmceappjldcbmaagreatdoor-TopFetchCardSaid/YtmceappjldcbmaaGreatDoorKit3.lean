/-
  THE KIT OF MY OWN, THIRD PART: one law for each kind of operation. Over any program; no condition.
-/
import Derived.Test.YtmceappjldcbmaaGreatDoorKit2
namespace Go.Proofs.YtmceappjldcbmaaGreatDoor
open Go.RowKit Go.Sort
set_option linter.unusedVariables false
set_option linter.unusedSimpArgs false

/-- what the program's tables say -/
class Und (P : Program) (t : TypeId) (d : outParam TypeDesc) : Prop where
  und : P.underlying t = some d
class Inf (P : Program) (t : TypeId) (size bytes : outParam Nat) (zs : outParam (List Value)) : Prop where
  inf : (P.info? t).map (fun i => (i.zero.map (·.cells.toList), i.size, i.bytes)) = some (some zs, size, bytes)
class Sca (P : Program) (t : TypeId) : Prop where
  sca : (isAgg t).run P default = .ok false default
class Agg (P : Program) (t : TypeId) : Prop where
  agg : (isAgg t).run P default = .ok true default
class Fld (P : Program) (s : TypeId) (i : Nat) (off ft : outParam Nat) : Prop where
  fld : ∃ fields f, P.underlying s = some (.struct fields) ∧ fields[i]? = some f ∧ f.offset = off ∧ f.type = ft
class Fun (P : Program) (f : FuncId) : Prop where
  fn : ∃ fn, P.funcs[f]? = some fn ∧ (fn.name == "runtime.NumGoroutine") = false ∧ fn.body.isNone = false

theorem isAgg_run {P : Program} {t : TypeId} {b : Bool} {w' : World} (h : (isAgg t).run P default = .ok b w') (w : World) : (isAgg t).run P w = .ok b w := by
  unfold isAgg at h ⊢
  simp only [underlying, program, Sem.run_bind] at h ⊢
  simp only [Sem.run, Result.andThen] at h ⊢
  cases e : P.underlying t with
  | none => rw [e] at h; simp [stuck] at h
  | some d =>
    rw [e] at h
    simp only [Sem.run_pure] at h ⊢
    cases d <;> simp_all [Sem.run_pure]
theorem Inf.get {P : Program} {t : TypeId} {size bytes : Nat} {zs : List Value} (h : Inf P t size bytes zs) : ∃ i z, P.info? t = some i ∧ i.zero = some z ∧ z.cells.toList = zs ∧ i.size = size ∧ i.bytes = bytes := by
  have := h.inf
  cases e : P.info? t with
  | none => rw [e] at this; simp at this
  | some i =>
    rw [e] at this
    simp only [Option.map_some, Option.some.injEq, Prod.mk.injEq, Option.map_eq_some_iff] at this
    obtain ⟨⟨z, h1, h2⟩, h3, h4⟩ := this
    exact ⟨i, z, rfl, h1, h2, h3, h4⟩
theorem sizeOf_run {P : Program} {t : TypeId} {size bytes : Nat} {zs : List Value} (h : Inf P t size bytes zs) (w : World) : (sizeOf t).run P w = .ok size w := by
  obtain ⟨i, z, h1, h2, h3, h4, h5⟩ := h.get
  simp [sizeOf, typeInfo, program, Sem.run, Sem.run_bind, Result.andThen, h1, h4]

/-- an address in a variable's block; an address so many cells into a slice's row -/
def badr (b j : Nat) : Addr := ⟨b, j, none⟩
def eadr (ao : Option Addr) (k : Nat) : Addr := (ao.getD ⟨0, 0, none⟩).add k
theorem Addr.add_add (a : Addr) (i j : Nat) : (a.add i).add j = a.add (i + j) := by
  unfold Addr.add
  by_cases hi : i = 0
  · subst hi; simp
  · by_cases hj : j = 0
    · subst hj; simp [hi]
    · simp [hi, hj, Nat.add_assoc]
theorem eadr_add (ao : Option Addr) (i j : Nat) : (eadr ao i).add j = eadr ao (i + j) := Addr.add_add _ _ _
theorem badr_add (b i j : Nat) : (badr b i).add j = badr b (i + j) := Addr.add_lit b i j

/-- where a variable's block stands -/
class BlkAt (rs : List Res) (b : Nat) (t : outParam TypeId) (cs : outParam (List Value)) : Prop where
  mem : Res.blk b t cs ∈ rs
instance BlkAt.here {b : Nat} {t : TypeId} {cs : List Value} {rs : List Res} : BlkAt (.blk b t cs :: rs) b t cs := ⟨by simp⟩
instance (priority := low) BlkAt.there {b : Nat} {t : TypeId} {cs : List Value} {r : Res} {rs : List Res} [h : BlkAt rs b t cs] : BlkAt (r :: rs) b t cs := ⟨List.mem_cons_of_mem _ h.mem⟩
/-- a slice that may be read, with its capacity -/
class SlAt (rs : List Res) (ao : Option Addr) (n c : Nat) (size : outParam Nat) (xs : outParam (List Value)) : Prop where
  get : ∀ {w0 w : World}, Holds w0 w rs → Sl w ao n c size xs
theorem rowIn.sl {w : World} {t : TypeId} {size : Nat} {ao : Option Addr} {n c : Nat} {xs : List Value} (h : rowIn (hp w) t size ao n c xs) : Sl w ao n c size xs := by
  obtain ⟨h1, h2, h3⟩ := h
  rcases h3 with ⟨rfl, rfl, rfl⟩ | ⟨g, o, cur, rfl, hg, hn, hm, hs, ht⟩
  · exact ⟨h1, Nat.le_refl _, Nat.zero_le _, fun _ => rfl, fun h0 => (by omega), h2⟩
  · refine ⟨h1, hn, hm, fun h => (by cases h), fun _ => ⟨g, o, rfl, block_lt hg, fun j u hu => ?_⟩, h2⟩
    rw [cell_of_row w g (o + j) cur t (0, 0) hg]
    rw [← ht, List.getElem?_take] at hu
    split at hu
    · simpa [List.getElem?_drop] using hu
    · cases hu
theorem slIn.sl {w : World} {size : Nat} {ao : Option Addr} {n c : Nat} {xs : List Value} (h : slIn (hp w) ao n c size xs) : Sl w ao n c size xs := by
  obtain ⟨h1, h2, h3, h4, h5, h6⟩ := h
  refine ⟨h1, h3, h4, h5, fun h0 => ?_, h2⟩
  obtain ⟨b, o, cur, t, z, rfl, e2, e3⟩ := h6 h0
  refine ⟨b, o, rfl, block_lt e2, fun j u hu => ?_⟩
  show (match w.heap[b]? with | some (.cells c _ _) => _ | _ => _) = _
  have e2' : w.heap[b]? = some (.cells cur t z) := e2
  simp only [e2']
  simpa using e3 j u hu
instance SlAt.vec {t : TypeId} {size : Nat} {ao : Option Addr} {n c : Nat} {xs : List Value} {rs : List Res} : SlAt (.vec t size ao n c xs :: rs) ao n c size xs := ⟨fun H => rowIn.sl (H.at (List.mem_cons_self ..))⟩
instance SlAt.sl {size : Nat} {ao : Option Addr} {n c : Nat} {xs : List Value} {rs : List Res} : SlAt (.sl ao n c size xs :: rs) ao n c size xs := ⟨fun H => slIn.sl (H.at (List.mem_cons_self ..))⟩
instance (priority := low) SlAt.there {size : Nat} {ao : Option Addr} {n c : Nat} {xs : List Value} {r : Res} {rs : List Res} [h : SlAt rs ao n c size xs] : SlAt (r :: rs) ao n c size xs := ⟨fun H => h.get H.tail⟩
/-- a row, its cells by their number -/
class CelAt (rs : List Res) (ao : Option Addr) (xs : outParam (List Value)) : Prop where
  get : ∀ {w0 w : World}, Holds w0 w rs → ∃ n c size, Sl w ao n c size xs
instance CelAt.vec {t : TypeId} {size : Nat} {ao : Option Addr} {n c : Nat} {xs : List Value} {rs : List Res} : CelAt (.vec t size ao n c xs :: rs) ao xs := ⟨fun H => ⟨n, c, size, rowIn.sl (H.at (List.mem_cons_self ..))⟩⟩
instance CelAt.sl {size : Nat} {ao : Option Addr} {n c : Nat} {xs : List Value} {rs : List Res} : CelAt (.sl ao n c size xs :: rs) ao xs := ⟨fun H => ⟨n, c, size, slIn.sl (H.at (List.mem_cons_self ..))⟩⟩
instance (priority := low) CelAt.there {ao : Option Addr} {xs : List Value} {r : Res} {rs : List Res} [h : CelAt rs ao xs] : CelAt (r :: rs) ao xs := ⟨fun H => h.get H.tail⟩
theorem Sl.cell {w : World} {ao : Option Addr} {n c size : Nat} {xs : List Value} (h : Sl w ao n c size xs) {k : Nat} {v : Value} (hk : xs[k]? = some v) : w.cell? (eadr ao k) = some v := by
  have hlt := (List.getElem?_eq_some_iff.1 hk).1
  have hl := h.len
  have hn : 0 < n := by
    rcases Nat.eq_zero_or_pos n with h0 | h0
    · rw [h0] at hl; simp at hl; rw [hl] at hlt; simp at hlt
    · exact h0
  obtain ⟨b, o, rfl, _, hc⟩ := h.get hn
  show w.cell? ((⟨b, o, none⟩ : Addr).add k) = _
  rw [Addr.add_lit]
  exact hc k v hk
theorem blk_cell {rs : List Res} {b : Nat} {t : TypeId} {cs : List Value} (h : BlkAt rs b t cs) {w0 w : World} (H : Holds w0 w rs) {j : Nat} {v : Value} (hj : cs[j]? = some v) : w.cell? (badr b j) = some v := by
  have hb : w.heap[b]? = some (.cells cs.toArray t (0, 0)) := H.at h.mem
  show w.cell? ⟨b, j, none⟩ = _
  rw [cell_of_row w b j cs.toArray t (0, 0) hb]; simpa using hj

section
variable {P : Program} {n : Nat} {ds : List Deferred} {w0 : World} {rs : List Res} {fr : Slots} {ty : TypeId}

theorem Ex.move {x : Operand} {v : Value} (h : ev fr x = some v) : Ex P n w0 rs fr (.move x) ty v :=
  fun a w dst pos after guard hf hw => by simp [execOp, hf.ev h]
theorem Ex.assign {x : Operand} {v : Value} (h : ev fr x = some v) : Ex P n w0 rs fr (.assign x) ty v :=
  fun a w dst pos after guard hf hw => by simp [execOp, hf.ev h]
theorem Ex.nilCheck {x : Operand} {p : Addr} (h : ev fr x = some (.pointer (some p))) : Ex P n w0 rs fr (.nilCheck x) ty (.pointer (some p)) :=
  fun a w dst pos after guard hf hw => by simp [execOp, hf.ev h]
theorem fieldAddr_run {s : TypeId} {i off ft size bytes : Nat} {zs : List Value} (hF : Fld P s i off ft) (hI : Inf P ft (size + 1) bytes zs) (p : Addr) (w : World) :
    (Instr.fieldAt s (.pointer (some p)) i).run P w = .ok (.pointer (some (p.add off))) w := by
  obtain ⟨fields, f, h1, h2, h3, h4⟩ := hF.fld
  have hs := sizeOf_run hI w
  subst h4
  simp [Instr.fieldAt, run_underlying h1, Sem.run_bind, h2, Instr.sureAddr, fieldPlace, hs, h3]
theorem Ex.fieldB {s : TypeId} {x : Operand} {i off ft size bytes : Nat} {zs : List Value} {b j : Nat} [hF : Fld P s i off ft] [hI : Inf P ft (size + 1) bytes zs] (h : ev fr x = some (.pointer (some (badr b j)))) :
    Ex P n w0 rs fr (.fieldAddr s x i) ty (.pointer (some (badr b (j + off)))) :=
  fun a w dst pos after guard hf hw => by simp [execOp, hf.ev h, fieldAddr_run hF hI, badr_add]
theorem Ex.fieldE {s : TypeId} {x : Operand} {i off ft size bytes : Nat} {zs : List Value} {ao : Option Addr} {j : Nat} [hF : Fld P s i off ft] [hI : Inf P ft (size + 1) bytes zs] (h : ev fr x = some (.pointer (some (eadr ao j)))) :
    Ex P n w0 rs fr (.fieldAddr s x i) ty (.pointer (some (eadr ao (j + off)))) :=
  fun a w dst pos after guard hf hw => by simp [execOp, hf.ev h, fieldAddr_run hF hI, eadr_add]
theorem load_run {t : TypeId} (hS : Sca P t) {p : Addr} {w : World} {v : Value} (h : w.cell? p = some v) : (Instr.loadAt t (.pointer (some p))).run P w = .ok v w := by
  simp [Instr.loadAt, Instr.sureAddr, loadVar, isAgg_run hS.sca, load, Sem.run, h]
theorem Ex.loadB {t t' : TypeId} {x : Operand} {b j : Nat} {cs : List Value} {v : Value} [hS : Sca P t] (h : ev fr x = some (.pointer (some (badr b j)))) [hB : BlkAt rs b t' cs] (hj : cs[j]? = some v) : Ex P n w0 rs fr (.load t x) ty v :=
  fun a w dst pos after guard hf hw => by simp [execOp, hf.ev h, load_run hS (blk_cell hB hw hj)]
theorem Ex.loadE {t : TypeId} {x : Operand} {ao : Option Addr} {k : Nat} {xs : List Value} {v : Value} [hS : Sca P t] (h : ev fr x = some (.pointer (some (eadr ao k)))) [hB : CelAt rs ao xs] (hj : xs[k]? = some v) : Ex P n w0 rs fr (.load t x) ty v :=
  fun a w dst pos after guard hf hw => by
    obtain ⟨m, c, size, hsl⟩ := hB.get hw
    simp [execOp, hf.ev h, load_run hS (hsl.cell hj)]
end
end Go.Proofs.YtmceappjldcbmaaGreatDoor
