/-
  THE KIT OF MY OWN, SIXTH PART: structs in one piece; literals; append; pieces of slices. Over any program; no condition.
-/
import Derived.Test.YtmceappjldcbmaaGreatDoorKit5
namespace Go.Proofs.YtmceappjldcbmaaGreatDoor
open Go.RowKit Go.Sort
set_option linter.unusedVariables false
set_option linter.unusedSimpArgs false

section
variable {P : Program} {ops : Array Oper} {Q : Exit → Act → World → Prop} {K : Act → Prop} {n : Nat} {ds : List Deferred} {w0 : World} {rest : List Oper} {fr : Slots} {rs rs' : List Res} {ty t : TypeId} {x y : Operand} {pos : String} {after : Array Edge}

theorem Ex.pickT {c x y : Operand} {p : Prop} {_ : Decidable p} {u : Value} (hc : ev fr c = some (.bool (decide p))) (hp : p) (hx : ev fr x = some u) : Ex P n w0 rs fr (.pick c x y) ty u :=
  fun a w dst pos after guard hf hw => by simp [execOp, hf.ev hc, hf.ev hx, asBool, hp]
theorem Ex.pickF {c x y : Operand} {p : Prop} {_ : Decidable p} {u : Value} (hc : ev fr c = some (.bool (decide p))) (hp : ¬p) (hx : ev fr y = some u) : Ex P n w0 rs fr (.pick c x y) ty u :=
  fun a w dst pos after guard hf hw => by simp [execOp, hf.ev hc, hf.ev hx, asBool, hp]

theorem Holds.nilvec {w : World} (e : TypeId) (size : Nat) (H : Holds w0 w rs) : Holds w0 w (.vec e size none 0 0 [] :: rs) := by
  refine H.add rfl rfl rfl (Nat.le_refl _) (fun _ _ => rfl) Hp.nil (fun k o e => by cases e) (fun _ _ => rfl) fun f _ => ⟨by simp, by simp, .inl ⟨rfl, rfl, rfl⟩⟩
theorem GC.nilvec {c : Code} (e : TypeId) (size : Nat) (k : @GC P c Q n ds w0 fr (.vec e size none 0 0 [] :: rs)) : @GC P c Q n ds w0 fr rs := fun a w hf hw => k a w hf (hw.nilvec e size)
theorem G.nilvec (e : TypeId) (size : Nat) (k : @G P ops Q n ds w0 rest fr (.vec e size none 0 0 [] :: rs)) : @G P ops Q n ds w0 rest fr rs := fun a w hf hw => k a w hf (hw.nilvec e size)

/-- structs in one piece -/
theorem loadCells_run {p : Addr} {w : World} (cs : List Value) (h : ∀ j v, cs[j]? = some v → w.cell? (p.add j) = some v) : (loadCells p cs.length).run P w = .ok cs.toArray w := by
  have := run_firstCells_some (P := P) w 1 cs.length p 0 0 cs (by simp) h
  simpa [Builtin.firstCells] using this
theorem loadAgg_run {t : TypeId} {size bytes : Nat} {zs : List Value} (hA : Agg P t) (hI : Inf P t size bytes zs) {p : Addr} {w : World} {cs : List Value} (hl : cs.length = size) (h : ∀ j v, cs[j]? = some v → w.cell? (p.add j) = some v) :
    (Instr.loadAt t (.pointer (some p))).run P w = .ok (.agg cs.toArray) w := by
  have h2 := loadCells_run (P := P) cs h
  rw [hl] at h2
  simp [Instr.loadAt, Instr.sureAddr, loadVar, isAgg_run hA.agg, sizeOf_run hI, h2]
theorem Ex.loadBA {t' : TypeId} {b j size bytes : Nat} {zs cs vs : List Value} [hA : Agg P t] [hI : Inf P t size bytes zs] (h : ev fr x = some (.pointer (some (badr b j)))) [hB : BlkAt rs b t' cs] (hj : (cs.drop j).take size = vs) (hl : vs.length = size) :
    Ex P n w0 rs fr (.load t x) ty (.agg vs.toArray) :=
  fun a w dst pos after guard hf hw => by
    have := loadAgg_run hA hI (p := badr b j) (w := w) (cs := vs) hl (fun i v hv => by
      rw [badr_add]
      refine blk_cell hB hw ?_
      rw [← hj, List.getElem?_take] at hv
      split at hv
      · simpa [List.getElem?_drop] using hv
      · cases hv)
    simp [execOp, hf.ev h, this]
theorem flat_piece {α : Type} [Inhabited α] {enc : α → List Value} {s : Nat} (h : Enc enc s) (l : List α) (k j : Nat) (hk : k < l.length) (v : Value) (hv : (enc (l.getD k default))[j]? = some v) : (flat enc l)[k * s + j]? = some v := by
  have hlt := (List.getElem?_eq_some_iff.1 hv).1
  rw [h.len] at hlt
  rw [flat_at h l k j hk hlt]; exact hv
theorem Ex.loadTA {α : Type} [Inhabited α] {enc : α → List Value} {l : List α} {s k bytes : Nat} {zs : List Value} {ao : Option Addr} [hA : Agg P t] [hI : Inf P t s bytes zs] (h : ev fr x = some (.pointer (some (eadr ao (k * s))))) [hB : CelAt rs ao (flat enc l)] [hE : Enc enc s] (hk : k < l.length) :
    Ex P n w0 rs fr (.load t x) ty (.agg (enc (l.getD k default)).toArray) :=
  fun a w dst pos after guard hf hw => by
    obtain ⟨m, c, size, hsl⟩ := hB.get hw
    have := loadAgg_run hA hI (p := eadr ao (k * s)) (w := w) (cs := enc (l.getD k default)) (hE.len _) (fun i v hv => by
      rw [eadr_add]
      exact hsl.cell (flat_piece hE l k i hk v hv))
    simp [execOp, hf.ev h, this]

/-- a struct stored in one piece -/
theorem Holds.setCells {w : World} {b : Nat} {t : TypeId} : ∀ (vs : List Value) (j : Nat) (cs : List Value) {w : World}, Holds w0 w (.blk b t cs :: rs) → j + vs.length ≤ cs.length → Holds w0 (w.setCells b j vs) (.blk b t (cs.take j ++ vs ++ cs.drop (j + vs.length)) :: rs)
  | [], j, cs, w, H, hl => by simpa [World.setCells] using H
  | v :: vs, j, cs, w, H, hl => by
    have h1 := H.setBlk (j := j) v
    have hl' : j + 1 + vs.length ≤ cs.length := by simp at hl; omega
    have h2 := Holds.setCells (w := w) vs (j + 1) (cs.set j v) h1 (by simpa using hl')
    have e : (cs.set j v).take (j + 1) ++ vs ++ (cs.set j v).drop (j + 1 + vs.length) = cs.take j ++ (v :: vs) ++ cs.drop (j + (v :: vs).length) := by
      have hj : j < cs.length := by omega
      rw [List.drop_set_of_lt (by omega), List.take_succ_eq_append_getElem (by simpa using hj), List.take_set_of_le (by omega)]
      simp [Nat.add_assoc, Nat.add_comm 1]
    rw [e] at h2
    exact h2
theorem storeAgg_run {size bytes : Nat} {zs : List Value} (hI : Inf P t size bytes zs) {b j : Nat} {w : World} {vs : List Value} (hl : vs.length = size) (h1 : ∀ v ∈ vs, v.oneCell' = true) (hc : ∀ i, i < vs.length → (w.cell? ⟨b, j + i, none⟩).isSome = true) (hf : ∀ i, i < vs.length → w.frozen? ⟨b, j + i, none⟩ = false) :
    (Instr.storeAt t (.pointer (some (badr b j))) (.agg vs.toArray)).run P w = .ok () (w.setCells b j vs) := by
  have hst := run_storeCells_cells (P := P) b j vs 0 w (by simpa using hc) (by simpa using hf) h1
  simp only [Nat.add_zero] at hst
  have e : badr b j = ⟨b, j, none⟩ := rfl
  simp [Instr.storeAt, Instr.sureAddr, storeVar, sizeOf_run hI, Value.cells, hl, e, hst]
class BlkPut (rs : List Res) (b : Nat) (vs : List Value) (j : Nat) (cs : outParam (List Value)) (rs' : outParam (List Res)) : Prop where
  upd : ∃ t, Upd rs (.blk b t cs) (.blk b t (cs.take j ++ vs ++ cs.drop (j + vs.length))) rs'
instance BlkPut.here {b j : Nat} {t : TypeId} {vs cs : List Value} {rs : List Res} : BlkPut (.blk b t cs :: rs) b vs j cs (.blk b t (cs.take j ++ vs ++ cs.drop (j + vs.length)) :: rs) := ⟨⟨t, .here⟩⟩
instance (priority := low) BlkPut.there {b j : Nat} {vs : List Value} {cs : List Value} {r : Res} {rs rs' : List Res} [h : BlkPut rs b vs j cs rs'] : BlkPut (r :: rs) b vs j cs (r :: rs') := ⟨h.upd.elim fun t k => ⟨t, .there k⟩⟩
theorem G.storeBA {b j size bytes : Nat} {zs cs vs : List Value} [hI : Inf P t size bytes zs] (hx : ev fr x = some (.pointer (some (badr b j)))) (hy : ev fr y = some (.agg vs.toArray)) (hs : vs.length = size) (h1 : vs.all (·.oneCell') = true) [hB : BlkPut rs b vs j cs rs']
    (hj : Nat.ble (j + vs.length) cs.length = true) (k : @G P ops Q n ds w0 rest fr rs') : @G P ops Q n ds w0 (⟨none, .store t x y, ty, pos, after, none⟩ :: rest) fr rs := by
  obtain ⟨t', hu⟩ := hB.upd
  have hj' : j + vs.length ≤ cs.length := Nat.le_of_ble_eq_true hj
  refine G.actU (rs' := rs') (fun a w pos after hf hw => ⟨w.setCells b j vs, ?_, hw.upd hu fun l h => Holds.setCells (w := w) vs j cs h hj'⟩) k
  obtain ⟨l, h2, h3⟩ := hu.split
  have hb : w.heap[b]? = some (.cells cs.toArray t' (0, 0)) := (hw.perm h2).at (List.mem_cons_self ..)
  have := storeAgg_run hI (b := b) (j := j) (w := w) hs (List.all_eq_true.1 h1) (fun i hi => by
    rw [cell_of_row w b (j + i) cs.toArray t' (0, 0) hb]; simp; omega) (fun i _ => frozen_blk hb _)
  simp [execOp, hf.ev hx, hf.ev hy, this]

/-- a struct put together -/
class Lay (P : Program) (t : TypeId) (pl : outParam (List (Nat × Nat))) : Prop where
  lay : ∃ fields, P.underlying t = some (.struct fields) ∧ ∀ w, (Array.mapM (m := Sem) (fun f : Field => Prod.mk f.offset <$> sizeOf f.type) fields).run P w = .ok pl.toArray w
def putL : List Value → Nat → List Value → List Value
  | cs, _, [] => cs
  | cs, j, v :: vs => putL (cs.set j v) (j + 1) vs
def fillL (place : Nat → Option (Nat × Nat)) : List Value → List (Nat × List Value) → Option (List Value)
  | cs, [] => some cs
  | cs, (i, vs) :: r => match place i with
    | none => none
    | some (off, size) => if Nat.beq vs.length size && Nat.ble (off + vs.length) cs.length then fillL place (putL cs off vs) r else none
theorem foldl_put : ∀ (vs : List Value) (cs : List Value) (off k : Nat), (vs.zipIdx k).foldl (fun cs (c, j) => cs.setIfInBounds (off + j) c) cs.toArray = (putL cs (off + k) vs).toArray
  | [], cs, off, k => rfl
  | v :: vs, cs, off, k => by
    have ih := foldl_put vs (cs.set (off + k) v) off (k + 1)
    simp only [List.zipIdx_cons, List.foldl_cons, putL, Nat.add_assoc]
    rw [← Nat.add_assoc] at ih ⊢
    simpa using ih
theorem fill_eq (place : Nat → Option (Nat × Nat)) : ∀ (l : List (Nat × Value)) (cs out : List Value), fillL place cs (l.map fun p => (p.1, p.2.cells.toList)) = some out → Instr.fill place cs.toArray l = some out.toArray
  | [], cs, out, h => by simp [fillL] at h; simp [Instr.fill, h]
  | (i, v) :: r, cs, out, h => by
    simp only [List.map_cons, fillL] at h
    simp only [Instr.fill]
    cases e : place i with
    | none => rw [e] at h; simp at h
    | some q =>
      obtain ⟨off, size⟩ := q
      rw [e] at h
      simp only at h ⊢
      split at h
      · rename_i hc
        simp only [Bool.and_eq_true, Nat.ble_eq] at hc
        rw [if_neg (by simp; simp at hc; omega)]
        have hf := foldl_put v.cells.toList cs off 0
        have e2 : v.cells.zipIdx.foldl (fun cs (c, j) => cs.setIfInBounds (off + j) c) cs.toArray = (putL cs (off + 0) v.cells.toList).toArray := by
          rw [← hf, ← Array.foldl_toList]; simp
        rw [e2]
        exact fill_eq place r _ _ h
      · cases h
def evp (fr : Slots) : List (Nat × Operand) → Option (List (Nat × Value))
  | [] => some []
  | (i, x) :: t => match ev fr x, evp fr t with
    | some v, some l => some ((i, v) :: l)
    | _, _ => none
theorem FrE.evp {a : Act} (hf : FrE a n fr) : ∀ {xs : List (Nat × Operand)} {vs : List (Nat × Value)}, evp fr xs = some vs → xs.map (fun p => (p.1, a.eval p.2)) = vs
  | [], vs, h => by simp [_root_.Go.Proofs.YtmceappjldcbmaaGreatDoor.evp] at h; simp [h]
  | (i, x) :: t, vs, h => by
    simp only [_root_.Go.Proofs.YtmceappjldcbmaaGreatDoor.evp] at h
    cases e1 : _root_.Go.Proofs.YtmceappjldcbmaaGreatDoor.ev fr x with
    | none => rw [e1] at h; simp at h
    | some v =>
      cases e2 : _root_.Go.Proofs.YtmceappjldcbmaaGreatDoor.evp fr t with
      | none => rw [e1, e2] at h; simp at h
      | some l =>
        rw [e1, e2] at h
        simp only [Option.some.injEq] at h
        rw [List.map_cons, hf.ev e1, FrE.evp hf e2, h]
def cellsOf2 : List (Nat × Value) → List (Nat × List Value)
  | [] => []
  | (i, v) :: t => (i, v.cells.toList) :: cellsOf2 t
theorem cellsOf2_eq : ∀ l : List (Nat × Value), cellsOf2 l = l.map fun p => (p.1, p.2.cells.toList)
  | [] => rfl
  | (i, v) :: t => by simp [cellsOf2, cellsOf2_eq t]
theorem Ex.build {parts : List (Nat × Operand)} {vals : List (Nat × Value)} {size bytes : Nat} {zs cells : List Value} {pl : List (Nat × Nat)} [hL : Lay P t pl] [hI : Inf P t size bytes zs] (hp : evp fr parts = some vals) (hc : fillL (fun i => pl[i]?) zs (cellsOf2 vals) = some cells) :
    Ex P n w0 rs fr (.build t parts.toArray) ty (.agg cells.toArray) :=
  fun a w dst pos after guard hf hw => by
    obtain ⟨fields, h1, h2⟩ := hL.lay
    obtain ⟨i, z, g1, g2, g3, g4, g5⟩ := hI.get
    have hm := hf.evp hp
    rw [cellsOf2_eq] at hc
    have hfill := fill_eq (fun i => pl[i]?) vals zs cells hc
    rw [← g3] at hfill
    simp only [Array.toArray_toList] at hfill
    simp [execOp, Instr.build, zeroValue, typeInfo, g1, g2, run_underlying h1, h2, hm, hfill]

/-- a slice literal -/
def zrep : List Value → Nat → List Value
  | _, 0 => []
  | zs, k + 1 => zs ++ zrep zs k
theorem zrep_eq (zs : List Value) (hz : 0 < zs.length) : ∀ k, ((Array.range (k * zs.length)).map fun i => zs.toArray[i % zs.toArray.size]!) = (zrep zs k).toArray := by
  have key : ∀ k i, i < k * zs.length → (zrep zs k)[i]? = some (zs[i % zs.length]!) := by
    intro k
    induction k with
    | zero => intro i hi; omega
    | succ k ih =>
      intro i hi
      simp only [zrep]
      by_cases h : i < zs.length
      · rw [List.getElem?_append_left h, Nat.mod_eq_of_lt h, List.getElem!_eq_getElem?_getD, List.getElem?_eq_getElem h]; rfl
      · rw [List.getElem?_append_right (by omega), ih (i - zs.length) (by rw [Nat.add_mul] at hi; omega)]
        congr 2
        rw [← Nat.mod_eq_sub_mod (by omega)]
  have len : ∀ k, (zrep zs k).length = k * zs.length := by
    intro k
    induction k with
    | zero => simp [zrep]
    | succ k ih => simp [zrep, ih, Nat.add_mul]; omega
  intro k
  apply Array.ext
  · simp [len]
  · intro i h1 h2
    have := key k i (by simpa using h1)
    simp at h2
    rw [List.getElem?_eq_getElem (by simpa using h2)] at this
    simp only [Option.some.injEq] at this
    simp [this]
theorem G.lit {d len : Nat} {parts : List (Nat × Operand)} {vals : List (Nat × Value)} {e size bytes : Nat} {zs cells : List Value} [hU : Und P t (.slice e)] [hI : Inf P e size bytes zs] (hp : evp fr parts = some vals)
    (hc : fillL (fun i => some (i * size, size)) (zrep zs len) (cellsOf2 vals) = some cells) (hz : zs.length = size) (hs : Nat.blt 0 size = true) (hl : cells.length = len * size) (hm : Nat.ble (len * size) 1000000 = true) (h1 : cells.all (·.oneCell') = true) (hd : Nat.blt d n = true)
    (k : ∀ ao, @G P ops Q n ds w0 rest ((d, .slice ao len len) :: fr) (.vec e size ao len len cells :: rs)) : @G P ops Q n ds w0 (⟨some d, .buildSlice t len parts.toArray, ty, pos, after, none⟩ :: rest) fr rs := by
  obtain ⟨i, z, g1, g2, g3, g4, g5⟩ := hI.get
  have hm' := Nat.le_of_ble_eq_true hm
  have hs' : 0 < size := by simpa [Nat.blt_eq] using hs
  have hlen : len ≤ 1000000 := Nat.le_trans (by exact Nat.le_mul_of_pos_right len hs') hm'
  refine G.act hd fun a w pos after hf hw => ⟨_, _, ?_, _, hw.allocRow cells e len size hl (by unfold maxLen; omega) (List.all_eq_true.1 h1), k (some ⟨w.heap.size, 0, none⟩)⟩
  have hmm := hf.evp hp
  rw [cellsOf2_eq] at hc
  have hfill := fill_eq _ vals (zrep zs len) cells hc
  have hzr := zrep_eq zs (by omega) len
  rw [hz] at hzr
  have hzc : z.cells = zs.toArray := by rw [← g3]
  rw [← hzr] at hfill
  have h24 : ¬ (16777216 < len * size) := by omega
  rw [show zs.toArray.size = size by simp [hz]] at hfill
  by_cases h0 : len * size = 0
  · have hl0 : len = 0 := by rcases Nat.mul_eq_zero.1 h0 with h | h <;> omega
    subst hl0
    have hr : ((Array.range (0 * size)).map fun i => zs.toArray[i % size]!) = #[] := by simp
    rw [hr] at hfill
    have hfill' : Instr.fill (fun i => some (i * size, size)) (Array.map (fun x : Nat => (default : Value)) (Array.range 0)) vals = some cells.toArray := by
      rw [show Array.map (fun x : Nat => (default : Value)) (Array.range 0) = #[] by simp]; exact hfill
    simp [execOp, Instr.buildSlice, run_underlying hU.und, sizeOf_run hI, hmm, newRow, hfill']
  · have hl0 : len ≠ 0 := by intro e; rw [e] at h0; simp at h0
    have hs0 : size ≠ 0 := by omega
    have hfill' : Instr.fill (fun i => some (i * size, size)) (Array.map (fun x => zs[x % size]?.getD default) (Array.range (len * size))) vals = some cells.toArray := by
      rw [← hfill]; congr 2; funext x; simp
    simp only [Nat.reducePow, execOp, Instr.buildSlice, run_underlying hU.und, sizeOf_run hI, Sem.run_bind, Result.andThen_ok, h24, h0, zeroValue, typeInfo]
    simp [hmm, newRow, g1, g2, hzc, hz, hfill']
end
end Go.Proofs.YtmceappjldcbmaaGreatDoor
