/-
  THE KIT OF MY OWN, THIRTEENTH PART: slices held against nil; results that lie in a cell; rows of slices; make. Over any program; no condition.
-/
import Derived.Test.YtjfdpfjngajnlaaDoorKit12
import Derived.Deep.OwnRows
namespace Go.Proofs.YtjfdpfjngajnlaaDoor
open Go.RowKit Go.Sort
set_option linter.unusedVariables false
set_option linter.unusedSimpArgs false

section
variable {P : Program} {ops : Array Oper} {Q : Exit → Act → World → Prop} {K : Act → Prop} {n : Nat} {ds : List Deferred} {w0 : World} {rest : List Oper} {fr : Slots} {rs rs' : List Res} {ty t tx t' : TypeId} {x y : Operand} {pos : String} {after : Array Edge}

theorem equal_nil {e m c : Nat} {ao : Option Addr} (hU : Und P t (.slice e)) (w : World) : (Op.equal t (.slice ao m c) (.slice none 0 0)).run P w = .ok (decide (ao = none)) w := by
  unfold Op.equal
  rw [show Op.maxDepth = 9999 + 1 from rfl]
  unfold Op.equalIn
  simp only [Sem.run_bind, run_underlying hU.und, Result.andThen_ok]
  cases ao <;> simp
theorem Ex.eqNil {e m c : Nat} {ao : Option Addr} [hU : Und P t (.slice e)] (hx : ev fr x = some (.slice ao m c)) (hy : ev fr y = some (.slice none 0 0)) : Ex P n w0 rs fr (.binOp .eql t x y t') ty (.bool (decide (ao = none))) :=
  fun _ w _ _ _ _ hf _ => by
    have := equal_nil (ao := ao) (m := m) (c := c) hU w
    simp [execOp, hf.ev hx, hf.ev hy, binOp, eqGuard, this]
theorem Ex.neNil {e m c : Nat} {ao : Option Addr} [hU : Und P t (.slice e)] (hx : ev fr x = some (.slice ao m c)) (hy : ev fr y = some (.slice none 0 0)) : Ex P n w0 rs fr (.binOp .neq t x y t') ty (.bool (decide (¬ ao = none))) :=
  fun _ w _ _ _ _ hf _ => by
    have := equal_nil (ao := ao) (m := m) (c := c) hU w
    simp [execOp, hf.ev hx, hf.ev hy, binOp, eqGuard, this]
theorem GC.nilLen {cd : Code} {m c size : Nat} {xs : List Value} [h : SlAt rs none m c size xs] (k : m = 0 → c = 0 → xs = [] → @GC P cd Q n ds w0 fr rs) : @GC P cd Q n ds w0 fr rs := fun a w hf hw => by
  have hs := h.get hw
  have h1 := hs.nil rfl
  have h2 := hs.le
  have h3 := hs.len
  have hm : m = 0 := by omega
  exact k hm h1 (List.length_eq_zero_iff.1 (by rw [h3, hm]; omega)) a w hf hw

/-- a result, in a slot or in a cell -/
def resF (tmps : Array Value) : ResultVar → Sem Value
  | .tmp t => pure (tmps.getD t undef)
  | .cell b t => do loadVar t (← asAddr (tmps.getD b undef))
theorem results_eq (fn : Func) (tmps : Array Value) : results fn tmps = (do let vs ← fn.results.mapM (resF tmps); pure (if h : vs.size = 1 then vs[0] else .tuple vs)) := rfl
def RV (P : Program) (n : Nat) (w0 : World) (fr : Slots) (rs : List Res) (r : ResultVar) (v : Value) : Prop :=
  ∀ a w, FrE a n fr → Holds w0 w rs → (resF a.tmps r).run P w = .ok v w
theorem RV.tmp {t : Nat} {v : Value} (h : look fr t = some v) : RV P n w0 fr rs (.tmp t) v := fun a w hf hw => by
  have e : a.tmps.getD t undef = v := hf.ev (x := .tmp t) h
  simp only [resF, e, Sem.run_pure]
theorem RV.cell {b c T T' size bytes : Nat} {zs cs : List Value} [hA : Agg P T] [hI : Inf P T size bytes zs] (h : look fr c = some (.pointer (some (badr b 0)))) [hB : BlkAt rs b T' cs] (hl : cs.length = size) : RV P n w0 fr rs (.cell c T) (.agg cs.toArray) := fun a w hf hw => by
  have e : a.tmps.getD c undef = .pointer (some (badr b 0)) := hf.ev (x := .tmp c) h
  have := loadAgg_run hA hI (p := badr b 0) (w := w) (cs := cs) hl (fun i v hv => by rw [badr_add]; exact blk_cell hB hw (by simpa using hv))
  simp [Instr.loadAt, Instr.sureAddr] at this
  simp only [resF, e]
  simp [asAddr, this]
theorem RV.cell1 {b c T T' : Nat} {v : Value} [hS : Sca P T] (h : look fr c = some (.pointer (some (badr b 0)))) [hB : BlkAt rs b T' [v]] : RV P n w0 fr rs (.cell c T) v := fun a w hf hw => by
  have e : a.tmps.getD c undef = .pointer (some (badr b 0)) := hf.ev (x := .tmp c) h
  have := load_run (P := P) hS (p := badr b 0) (w := w) (blk_cell hB hw (j := 0) rfl)
  simp [Instr.loadAt, Instr.sureAddr] at this
  simp only [resF, e]
  simp [asAddr, this]
theorem resR1 {fn : Func} {r : ResultVar} {v : Value} (h : fn.results = #[r]) (hv : RV P n w0 fr rs r v) : ∀ a w, Fr ds a n fr → Holds w0 w rs → (results fn a.tmps).run P w = .ok v w := fun a w hf hw => by
  have := hv a w hf hw
  rw [results_eq, h]
  simp [this]
theorem resR2 {fn : Func} {r r' : ResultVar} {v v' : Value} (h : fn.results = #[r, r']) (hv : RV P n w0 fr rs r v) (hv' : RV P n w0 fr rs r' v') : ∀ a w, Fr ds a n fr → Holds w0 w rs → (results fn a.tmps).run P w = .ok (.tuple #[v, v']) w := fun a w hf hw => by
  have h1 := hv a w hf hw
  have h2 := hv' a w hf hw
  rw [results_eq, h]
  simp [h1, h2]
theorem resR3 {fn : Func} {r r' r'' : ResultVar} {v v' v'' : Value} (h : fn.results = #[r, r', r'']) (hv : RV P n w0 fr rs r v) (hv' : RV P n w0 fr rs r' v') (hv'' : RV P n w0 fr rs r'' v'') : ∀ a w, Fr ds a n fr → Holds w0 w rs → (results fn a.tmps).run P w = .ok (.tuple #[v, v', v'']) w := fun a w hf hw => by
  have h1 := hv a w hf hw
  have h2 := hv' a w hf hw
  have h3 := hv'' a w hf hw
  rw [results_eq, h]
  simp [h1, h2, h3]

/-- a slice as a datum: its address, length, capacity and its data -/
structure SlD (α : Type) where
  ao : Option Addr
  n : Nat
  c : Nat
  l : List α
instance {α : Type} : Inhabited (SlD α) := ⟨⟨none, 0, 0, []⟩⟩
def eS {α : Type} (x : SlD α) : List Value := [.slice x.ao x.n x.c]
instance {α : Type} : Enc (eS (α := α)) 1 := ⟨fun _ => rfl, fun x u hu => by simp [eS] at hu; subst hu; rfl⟩
/-- all of them may be read -/
def Rd {α : Type} (enc : α → List Value) (s : Nat) (l : List (SlD α)) : Pers where
  sat f := ∀ x ∈ l, slIn f x.ao x.n x.c s (flat enc x.l)
  mono := fun hf h x hx => slIn.mono hf (h x hx)
theorem Holds.rdAt {w : World} {α : Type} [Inhabited α] {enc : α → List Value} {s : Nat} {l : List (SlD α)} (H : Holds w0 w rs) (hm : Res.per (Rd enc s l) ∈ rs) (k : Nat) (hk : k < l.length) :
    Holds w0 w (.sl (l.getD k default).ao (l.getD k default).n (l.getD k default).c s (flat enc (l.getD k default).l) :: rs) :=
  H.derive hm _ fun f o o' hs => hs _ (by rw [List.getD_eq_getElem?_getD, List.getElem?_eq_getElem hk]; exact List.getElem_mem hk)
theorem Holds.rdNil {w : World} {α : Type} (enc : α → List Value) (s : Nat) (H : Holds w0 w rs) : Holds w0 w (.per (Rd enc s ([] : List (SlD α))) :: rs) :=
  H.add rfl rfl rfl (Nat.le_refl _) (fun _ _ => rfl) Hp.nil (fun k o e => by cases e) (fun _ _ => rfl) fun f _ x hx => by simp at hx
theorem Holds.rdSnoc {w : World} {α : Type} {enc : α → List Value} {s : Nat} {l : List (SlD α)} {x : SlD α} (H : Holds w0 w (.sl x.ao x.n x.c s (flat enc x.l) :: .per (Rd enc s l) :: rs)) : Holds w0 w (.per (Rd enc s (l ++ [x])) :: rs) :=
  H.join fun f a b ha hb _ y hy => by
    rcases List.mem_append.1 hy with h | h
    · exact hb y h
    · simp at h; subst h; exact ha

/-- make -/
theorem flat_rep {α : Type} (enc : α → List Value) (z : α) : ∀ m : Nat, flat enc (List.replicate m z) = zrep (enc z) m
  | 0 => rfl
  | m + 1 => by
    show enc z ++ flat enc (List.replicate m z) = enc z ++ zrep (enc z) m
    rw [flat_rep enc z m]
theorem zrep_one {v : Value} (h1 : v.oneCell' = true) : ∀ m, ∀ u ∈ zrep [v] m, u.oneCell' = true
  | 0, u, hu => by simp [zrep] at hu
  | m + 1, u, hu => by
    rcases List.mem_append.1 hu with h | h
    · simp at h; subst h; exact h1
    · exact zrep_one h1 m u h
theorem G.make {d e bytes m : Nat} {v : Value} {k k' : IntKind} [hU : Und P t (.slice e)] [hI : Inf P e 1 bytes [v]] (hx : ev fr x = some (.int k (m : Int))) (hy : ev fr y = some (.int k' (m : Int))) (hb : bytes * m ≤ 281474976710656 ∧ m ≤ 1000000000000) (h1 : v.oneCell' = true) (hd : Nat.blt d n = true)
    (kk : ∀ ao, @G P ops Q n ds w0 rest ((d, .slice ao m m) :: fr) (.vec e 1 ao m m (zrep [v] m) :: rs)) : @G P ops Q n ds w0 (⟨some d, .makeSlice t x y, ty, pos, after, none⟩ :: rest) fr rs := by
  obtain ⟨i, z, g1, g2, g3, g4, g5⟩ := hI.get
  have hz1 : z.cells = #[v] := by rw [← Array.toList_inj]; simpa using g3
  have hz : madeCells #[v] m = (zrep [v] m).toArray := by
    have := zrep_eq [v] (by simp) m
    simp only [List.length_cons, List.length_nil, Nat.zero_add, Nat.mul_one] at this
    exact this
  have hlen : (zrep [v] m).length = m := by
    have := congrArg Array.size hz
    rw [size_madeCells] at this
    simpa using this.symm
  refine G.act hd fun a w pos after hf hw => ?_
  have hinfo : (P.info? e).map (fun i => (i.zero, i.size, i.bytes)) = some (some z, 1, bytes) := by rw [g1]; simp [g2, g4, g5]
  have hrun := run_make (P := P) w t e i z hU.und g1 g2 k k' m m (by omega) (Int.le_refl _) (by
    have h : ((i.bytes * m : Nat) : Int) ≤ 281474976710656 := by rw [g5]; omega
    rwa [Int.natCast_mul] at h) (by omega)
  simp only [Int.toNat_natCast, g4, Nat.mul_one, hz1, hz] at hrun
  refine ⟨_, _, ?_, _, hw.allocRow (zrep [v] m) e m 1 (by omega) (by unfold maxLen; omega) ?_, kk _⟩
  · simp [execOp, hf.ev hx, hf.ev hy, hrun]
  · exact zrep_one h1 m
end
end Go.Proofs.YtjfdpfjngajnlaaDoor
