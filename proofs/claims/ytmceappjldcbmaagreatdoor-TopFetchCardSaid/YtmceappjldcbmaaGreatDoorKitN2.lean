/-
  THE KIT OF MY OWN, TWENTY-NINTH PART: the cells of a block told in another form. Over any program; no condition.
-/
import Derived.Test.YtmceappjldcbmaaGreatDoorKitN1
import Derived.Laws.CopyRow
import Derived.Lib.ConvBytes
import Derived.Laws.RangeString
import Derived.Laws.Runes
import Derived.Lib.Bytealg
import Derived.Scope
import Derived.Test.YtmceappjldcbmaaGreatDoorKit2
import Derived.Test.YtmceappjldcbmaaGreatDoorKit8
import Derived.Maps.RangeRun
import Derived.LaidEql
import Derived.Deep.Matrix
import Derived.Lib.LaidTab
namespace Go.Proofs.YtmceappjldcbmaaGreatDoor
open Go.RowKit Go.Sort
set_option linter.unusedVariables false
section
variable {P : Program} {ops : Array Oper} {Q : Exit → Act → World → Prop} {n : Nat} {ds : List Deferred} {w0 : World} {rest : List Oper} {fr : Slots} {rs : List Res} {b : Nat} {t : TypeId} {cs : List Value}
theorem GC.reblk {c : Code} (cs' : List Value) (h : cs = cs') (k : @GC P c Q n ds w0 fr (.blk b t cs' :: rs)) : @GC P c Q n ds w0 fr (.blk b t cs :: rs) := h ▸ k
theorem G.reblk (cs' : List Value) (h : cs = cs') (k : @G P ops Q n ds w0 rest fr (.blk b t cs' :: rs)) : @G P ops Q n ds w0 rest fr (.blk b t cs :: rs) := h ▸ k
end
end Go.Proofs.YtmceappjldcbmaaGreatDoor
/-
  THE KIT OF MY OWN, THIRTY-FIRST PART: cells of a row of one's own overwritten in one go: append within the row, copy, clear; a row cut short. Over any program; no condition.
-/
namespace Go.Proofs.YtmceappjldcbmaaGreatDoor
open Go.RowKit Go.Sort
set_option linter.unusedVariables false
set_option linter.unusedSimpArgs false
/-- the cells from k on are others -/
def laid (xs : List Value) (k : Nat) (news : List Value) : List Value := xs.take k ++ news ++ xs.drop (k + news.length)
theorem laid_len (xs : List Value) (k : Nat) (news : List Value) (h : k + news.length ≤ xs.length) : (laid xs k news).length = xs.length := by
  unfold laid; simp only [List.length_append, List.length_take, List.length_drop]; omega
theorem Holds.setRow {w0 w : World} {rs : List Res} {e size n c g o : Nat} {xs : List Value} (H : Holds w0 w (.vec e size (some ⟨g, o, none⟩) n c xs :: rs)) (k : Nat) (news : List Value) (hk : k + news.length ≤ n * size) (h1 : ∀ u ∈ news, u.oneCell' = true) :
    Holds w0 (w.setCells g (o + k) news) (.vec e size (some ⟨g, o, none⟩) n c (laid xs k news) :: rs) := by
  obtain ⟨r1, r2, r3⟩ : rowIn (hp w) e size (some ⟨g, o, none⟩) n c xs := H.at (List.mem_cons_self ..)
  rcases r3 with ⟨h, _⟩ | ⟨g', o', cur, hao, hg, hn, hcm, hcs, htk⟩
  · cases h
  simp only [Option.some.injEq, Addr.mk.injEq] at hao
  obtain ⟨rfl, rfl, -⟩ := hao
  have hg' : w.heap[g]? = some (.cells cur e (0, 0)) := hg
  have hms := Nat.mul_le_mul_right size hn
  obtain ⟨s1, s2, s3, s4⟩ := setCells_rest (b := g) news (o + k) w
  have hh := setCells_heap (b := g) (t := e) news (o + k) w cur.toList (by simpa using hg') (by simp; omega)
  refine H.step s1 s2 s3 (by omega) fun f ow hrow hf ho => ?_
  have howg : ∃ y, ow g = some y := by
    obtain ⟨_, _, hq⟩ := hrow
    rcases hq with ⟨hq, _⟩ | ⟨g', o', cur', hq, hq2, _⟩
    · cases hq
    · simp only [Option.some.injEq, Addr.mk.injEq] at hq
      obtain ⟨rfl, rfl, -⟩ := hq
      exact ⟨_, hq2⟩
  refine ⟨Hp.one g _, ⟨by rw [laid_len _ _ _ (by omega)]; exact r1, fun u hu => ?_, .inr ⟨g, o, _, rfl, Hp.one_self _ _, hn, hcm, ?_, ?_⟩⟩, Hp.one_le hh, fun q hq hqn => ?_⟩
  · unfold laid at hu
    rcases List.mem_append.1 hu with hu | hu
    · rcases List.mem_append.1 hu with hu | hu
      · exact r2 u (List.mem_of_mem_take hu)
      · exact h1 u hu
    · exact r2 u (List.mem_of_mem_drop hu)
  · simp only [List.size_toArray, List.length_append, List.length_take, List.length_drop, Array.length_toList]
    omega
  · -- the row's cells, read anew
    have hx : ∀ i, i < n * size → cur.toList[o + i]? = xs[i]? := by
      intro i hi
      rw [← htk, List.getElem?_take, if_pos hi, List.getElem?_drop]
    apply List.ext_getElem?
    intro i
    simp only
    by_cases hi : i < n * size
    · rw [List.getElem?_take, if_pos hi, List.getElem?_drop]
      unfold laid
      have hcl : cur.toList.length = cur.size := Array.length_toList
      by_cases i1 : i < k
      · rw [List.getElem?_append_left (by simp only [List.length_append, List.length_take]; omega), List.getElem?_append_left (by simp only [List.length_take]; omega), List.getElem?_take, if_pos (by omega), hx i hi,
          List.getElem?_append_left (by simp only [List.length_append, List.length_take]; omega), List.getElem?_append_left (by simp only [List.length_take]; omega), List.getElem?_take, if_pos i1]
      · by_cases i2 : i < k + news.length
        · rw [List.getElem?_append_left (by simp only [List.length_append, List.length_take]; omega), List.getElem?_append_right (by simp only [List.length_take]; omega),
            List.getElem?_append_left (by simp only [List.length_append, List.length_take]; omega), List.getElem?_append_right (by simp only [List.length_take]; omega)]
          simp only [List.length_take]
          congr 1
          omega
        · rw [List.getElem?_append_right (by simp only [List.length_append, List.length_take]; omega), List.getElem?_append_right (by simp only [List.length_append, List.length_take]; omega), List.getElem?_drop, List.getElem?_drop]
          simp only [List.length_append, List.length_take]
          rw [show o + k + news.length + (o + i - (min (o + k) cur.toList.length + news.length)) = o + i by omega, show k + news.length + (i - (min k xs.length + news.length)) = i by omega]
          exact hx i hi
    · rw [List.getElem?_eq_none (by simp only [List.length_take]; omega), List.getElem?_eq_none (by rw [laid_len _ _ _ (by omega)]; omega)]
  · obtain ⟨y, hy⟩ := howg
    have hkg : q ≠ g := fun e => by rw [e, hy] at hqn; cases hqn
    exact ⟨Hp.one_ne _ hkg, setCells_other _ _ _ _ hkg⟩
/-- a row cut short -/
theorem Holds.cutRow {w0 w : World} {rs : List Res} {e size n c : Nat} {ao : Option Addr} {xs : List Value} (m : Nat) (hm : m ≤ n) (H : Holds w0 w (.vec e size ao n c xs :: rs)) : Holds w0 w (.vec e size ao m c (xs.take (m * size)) :: rs) := by
  refine H.step rfl rfl rfl (Nat.le_refl _) fun f ow hrow hf ho => ⟨ow, ?_, ho, fun k hk hn => ⟨hn, rfl⟩⟩
  obtain ⟨r1, r2, r3⟩ := hrow
  have hms := Nat.mul_le_mul_right size hm
  refine ⟨by rw [List.length_take]; omega, fun u hu => r2 u (List.mem_of_mem_take hu), ?_⟩
  rcases r3 with ⟨h1, h2, h3⟩ | ⟨g, o, cur, h1, h2, h3, h4, h5, h6⟩
  · exact .inl ⟨h1, by omega, h3⟩
  · refine .inr ⟨g, o, cur, h1, h2, by omega, h4, h5, ?_⟩
    rw [← h6, List.take_take, Nat.min_eq_left hms]
section
variable {P : Program} {ops : Array Oper} {Q : Exit → Act → World → Prop} {n : Nat} {ds : List Deferred} {w0 : World} {rest : List Oper} {fr : Slots} {rs rs' : List Res} {ty t tx : TypeId} {x y z z' : Operand} {pos : String} {after : Array Edge}
/-- s[i:j:k], only its bounds looked at -/
theorem Ex.sl3 {e size bytes m c l r k : Nat} {k1 k2 k3 : IntKind} {zs : List Value} {ao : Option Addr} {z3 : Operand} [hU : Und P t (.slice e)] [hI : Inf P e size bytes zs] (hx : ev fr x = some (.slice ao m c)) (hy : ev fr y = some (.int k1 (l : Int))) (hz : ev fr z = some (.int k2 (r : Int))) (hz3 : ev fr z3 = some (.int k3 (k : Int))) (hr : l ≤ r ∧ r ≤ k ∧ k ≤ c) :
    Ex P n w0 rs fr (.slice t x (some y) (some z) (some z3)) ty (.slice (if k = l then ao else ao.map (·.add (l * size))) (r - l) (k - l)) :=
  fun a w dst pos after guard hf hw => by
    have h1 : (0 : Int) ≤ (l : Int) := by omega
    have h2 : (0 : Int) ≤ (r : Int) := by omega
    have h5 : (0 : Int) ≤ (k : Int) := by omega
    have h3 : (l : Int) ≤ (r : Int) := by omega
    have h4 : (r : Int) ≤ (k : Int) := by omega
    have h6 : (k : Int) ≤ (c : Int) := by omega
    obtain ⟨q1, q2, q3⟩ := hr
    have hs := sizeOf_run hI w
    simp [execOp, Instr.sliceAt, Instr.slice, Instr.sliceBounds, Instr.sliceBound, hf.ev hx, run_underlying hU.und, hs, hf.ev hy, hf.ev hz, hf.ev hz3, asIntOf, h1, h2, h3, h4, h5, h6, q1, q2, q3]
/-- append within a row: what stands behind j comes behind i -/
theorem G.appIn {d e e' size bytes i j m c : Nat} {zs xs : List Value} {ao : Option Addr} {f : Option Addr → Nat → Nat → List Value → List Res} [hU : Und P t (.slice e)] [hI : Inf P e size bytes zs] [hV : Und P tx (.slice e')] [hS : VecSet rs ao m c e size xs f] (hij : i ≤ j ∧ j ≤ m ∧ 0 < m)
    (hx : ev fr x = some (.slice ao i c)) (hy : ev fr y = some (.slice (subA ao c j size) (m - j) (c - j))) (hd : Nat.blt d n = true)
    (k : ∀ rs', rs' = f ao m c (laid xs (i * size) (xs.drop (j * size))) → @G P ops Q n ds w0 rest ((d, .slice ao (i + (m - j)) c) :: fr) rs') :
    @G P ops Q n ds w0 (⟨some d, .call ⟨.builtin .append, #[x, y], #[t, tx]⟩, ty, pos, after, none⟩ :: rest) fr rs := by
  obtain ⟨hij1, hij2, hm0⟩ := hij
  refine G.act hd fun a w pos after hf hw => ?_
  obtain ⟨l, p1, _⟩ := (hS.upd none 0 0 []).split
  have hw1 := hw.perm p1
  have hrow : rowIn (hp w) e size ao m c xs := hw1.at (List.mem_cons_self ..)
  have hrow' := hrow
  obtain ⟨r1, r2, r3⟩ := hrow'
  rcases r3 with ⟨h, h0, _⟩ | ⟨g, o, cur, rfl, hg, hn, hcm, hcs, htk⟩
  · omega
  have hg' : w.heap[g]? = some (.cells cur e (0, 0)) := hg
  have hsl : Sl w (subA (some ⟨g, o, none⟩) c j size) (m - j) (c - j) size ((xs.drop (j * size)).take ((m - j) * size)) := slIn.sl (slIn.piece (rowIn.frozen hrow) j m hij2 (Nat.le_refl _))
  have hdr : (xs.drop (j * size)).take ((m - j) * size) = xs.drop (j * size) := by
    rw [List.take_of_length_le]
    rw [List.length_drop, r1, Nat.sub_mul]; omega
  rw [hdr] at hsl
  obtain ⟨ti, z0, g1, g2, g3, g4, g5⟩ := hI.get
  have hm1 := Nat.mul_le_mul_right size hn
  have hm2 := Nat.mul_le_mul_right size hij1
  have hm3 := Nat.mul_le_mul_right size hij2
  have hnl : (xs.drop (j * size)).length = m * size - j * size := by rw [List.length_drop, r1]
  have hsrc := hsl.src hV
  rw [← g4] at hsrc
  have hr := run_append_room_src (P := P) w t tx ty e ti hU.und g1 g o i c (.slice (subA (some ⟨g, o, none⟩) c j ti.size) (m - j) (c - j)) (m - j) (xs.drop (j * size)) (by rw [g4] at hsrc ⊢; exact hsrc) (by omega)
    (fun q hq => by rw [cell_of_row w g _ cur e (0, 0) hg', g4]; simp; rw [hnl] at hq; omega) (fun q hq => frozen_of_row w g _ cur e hg')
  rw [g4] at hr
  have hH := hw1.setRow (i * size) (xs.drop (j * size)) (by rw [hnl]; omega) (fun u hu => r2 u (List.mem_of_mem_drop hu))
  refine ⟨_, _, append_run hf.toFrE hx hy hr, _, ?_, k _ rfl⟩
  obtain ⟨l', q1, q2⟩ := (hS.upd (some ⟨g, o, none⟩) m c (laid xs (i * size) (xs.drop (j * size)))).split
  have : l.Perm l' := (p1.symm.trans q1).cons_inv
  exact (hH.perm (this.cons _)).perm q2.symm
theorem zrepLen (zs : List Value) : ∀ k, (zrep zs k).length = k * zs.length
  | 0 => by simp [zrep]
  | k + 1 => by simp only [zrep, List.length_append, zrepLen zs k, Nat.succ_mul]; omega
theorem zrepMem {zs : List Value} {p : Value → Prop} (h : ∀ u ∈ zs, p u) : ∀ k, ∀ u ∈ zrep zs k, p u
  | 0, u, hu => by simp [zrep] at hu
  | k + 1, u, hu => by
    rcases List.mem_append.1 (show u ∈ zs ++ zrep zs k from hu) with hu | hu
    · exact h u hu
    · exact zrepMem h k u hu
theorem clear_run {e size bytes : Nat} {zs : List Value} (hU : Und P t (.slice e)) (hI : Inf P e size bytes zs) (w : World) (b o k c : Nat) (hk : 0 < k) (hc : ∀ j, j < (zrep zs k).length → (w.cell? ⟨b, o + j, none⟩).isSome = true) (hf : ∀ j, j < (zrep zs k).length → w.frozen? ⟨b, o + j, none⟩ = false) (h1 : ∀ u ∈ zs, u.oneCell' = true) (hpos : 0 < zs.length) :
    (Builtin.clear_ #[t] ty #[.slice (some ⟨b, o, none⟩) k c]).run P w = .ok (.tuple #[]) (w.setCells b o (zrep zs k)) := by
  obtain ⟨ti, z0, g1, g2, g3, g4, g5⟩ := hI.get
  have hzc : (Builtin.zeroCells z0.cells k).toList = zrep zs k := by
    unfold Builtin.zeroCells
    have := zrep_eq zs hpos k
    rw [show z0.cells = zs.toArray by rw [← g3]]
    simp only [List.size_toArray] at this ⊢
    rw [this]
  have hst := run_storeCells_cells (P := P) b o (zrep zs k) 0 w (by simpa using hc) (by simpa using hf) (zrepMem h1 k)
  simp only [Nat.add_zero] at hst
  obtain ⟨m, rfl⟩ : ∃ m, k = m + 1 := ⟨k - 1, by omega⟩
  simp [Builtin.clear_, run_underlying hU.und, zeroValue, typeInfo, g1, g2, hzc, hst]
/-- a value that nobody takes -/
theorem G.actV {op : Op} (h : ∀ a w pos after, Fr ds a n fr → Holds w0 w rs → ∃ v w', (execOp a.eval ⟨none, op, ty, pos, after, none⟩).run P w = .ok (.value v) w' ∧ Holds w0 w' rs') (k : @G P ops Q n ds w0 rest fr rs') :
    @G P ops Q n ds w0 (⟨none, op, ty, pos, after, none⟩ :: rest) fr rs := by
  intro a w hf hw
  refine wpList_plain rfl fun K hK => ?_
  unfold Oper.wp
  obtain ⟨v, w', h1, h2⟩ := h a w pos after hf hw
  rw [h1]
  exact hK _ _ (k _ w' (hf.put_none _) h2)
theorem sub_some {g o c i size : Nat} (h : i < c) : subA (some ⟨g, o, none⟩) c i size = some ⟨g, o + i * size, none⟩ := by
  unfold subA
  rw [if_neg (by omega)]
  simp [Addr.add_lit]
/-- clear of the end of a row -/
theorem G.clearIn {e size bytes i m c : Nat} {zs xs : List Value} {ao : Option Addr} {f : Option Addr → Nat → Nat → List Value → List Res} [hU : Und P t (.slice e)] [hI : Inf P e size bytes zs] [hS : VecSet rs ao m c e size xs f] (hi : i < m)
    (hx : ev fr x = some (.slice (subA ao c i size) (m - i) (c - i)))
    (k : ∀ rs', rs' = f ao m c (laid xs (i * size) (zrep zs (m - i))) → @G P ops Q n ds w0 rest fr rs') (h1 : zs.all (fun u => u.oneCell') = true) (hsz : zs.length = size) (hpos : 0 < size) :
    @G P ops Q n ds w0 (⟨none, .call ⟨.builtin .clear, #[x], #[t]⟩, ty, pos, after, none⟩ :: rest) fr rs := by
  refine G.actV (rs' := f ao m c (laid xs (i * size) (zrep zs (m - i)))) (fun a w pos after hf hw => ?_) (k _ rfl)
  obtain ⟨l, p1, _⟩ := (hS.upd none 0 0 []).split
  have hw1 := hw.perm p1
  have hrow : rowIn (hp w) e size ao m c xs := hw1.at (List.mem_cons_self ..)
  obtain ⟨r1, r2, r3⟩ := hrow
  rcases r3 with ⟨h, h0, _⟩ | ⟨g, o, cur, rfl, hg, hn, hcm, hcs, htk⟩
  · omega
  have hg' : w.heap[g]? = some (.cells cur e (0, 0)) := hg
  have hm1 := Nat.mul_le_mul_right size hn
  have hzl : (zrep zs (m - i)).length = m * size - i * size := by rw [zrepLen, hsz, Nat.sub_mul]
  have hmi := Nat.mul_le_mul_right size (Nat.le_of_lt hi)
  rw [sub_some (by omega)] at hx
  have h1' : ∀ u ∈ zs, u.oneCell' = true := fun u hu => List.all_eq_true.1 h1 u hu
  have hr := clear_run (ty := ty) hU hI w g (o + i * size) (m - i) (c - i) (by omega)
    (fun q hq => by rw [cell_of_row w g _ cur e (0, 0) hg']; simp; omega) (fun q hq => frozen_of_row w g _ cur e hg') h1' (by omega)
  have hH := hw1.setRow (i * size) (zrep zs (m - i)) (by omega) (zrepMem h1' _)
  refine ⟨.tuple #[], w.setCells g (o + i * size) (zrep zs (m - i)), ?_, ?_⟩
  · simp [execOp, hf.ev hx, resolve, invoke, builtin, hr]
  · obtain ⟨l', q1, q2⟩ := (hS.upd (some ⟨g, o, none⟩) m c (laid xs (i * size) (zrep zs (m - i)))).split
    have : l.Perm l' := (p1.symm.trans q1).cons_inv
    exact (hH.perm (this.cons _)).perm q2.symm
theorem copy_run {e e' bytes : Nat} {zs : List Value} (hU : Und P t (.slice e)) (hI : Inf P e 1 bytes zs) (hV : Und P tx (.slice e')) (w : World) (b o k c : Nat) {bo : Option Addr} {m' c' : Nat} {news : List Value} (hs : Sl w bo m' c' 1 news) (hk : m' ≤ k) (hc : ∀ j, j < news.length → (w.cell? ⟨b, o + j, none⟩).isSome = true) (hf : ∀ j, j < news.length → w.frozen? ⟨b, o + j, none⟩ = false) :
    (Builtin.copy_ #[t, tx] ty #[.slice (some ⟨b, o, none⟩) k c, .slice bo m' c']).run P w = .ok (goInt m') (w.setCells b o news) := by
  obtain ⟨ti, z0, g1, g2, g3, g4, g5⟩ := hI.get
  have hst := run_storeCells_cells (P := P) b o news 0 w (by simpa using hc) (by simpa using hf) hs.one
  simp only [Nat.add_zero] at hst
  have hmin : Nat.min m' k = m' := Nat.min_eq_left hk
  have hlen := hs.len
  cases bo with
  | none =>
    have h0 := hs.nil rfl
    have h1 := hs.le
    obtain rfl : m' = 0 := by omega
    obtain rfl : news = [] := List.eq_nil_of_length_eq_zero (by simpa using hlen)
    simp [Builtin.copy_, run_underlying hU.und, Builtin.lenOf, Builtin.firstCells, sizeOf, typeInfo, g1, storeCells] at hst ⊢
    rfl
  | some q =>
    have hfc := run_firstCells_some (P := P) w 1 m' q m' c' news (by simpa using hlen) (fun j v hv => hs.cell (k := j) hv)
    simp [Builtin.copy_, run_underlying hU.und, Builtin.lenOf, sizeOf, typeInfo, g1, g4, hmin, hfc, hst]
/-- copy into a row of one's own, from a place on -/
theorem G.copyIn {d e e' bytes i m c m' c' : Nat} {zs xs news : List Value} {ao bo : Option Addr} {f : Option Addr → Nat → Nat → List Value → List Res} [hU : Und P t (.slice e)] [hI : Inf P e 1 bytes zs] [hV : Und P tx (.slice e')] [hS : VecSet rs ao m c e 1 xs f] [hR : SlAt rs bo m' c' 1 news] (hi : i + m' ≤ m)
    (hx : ev fr x = some (.slice (subA ao c i 1) (m - i) (c - i))) (hy : ev fr y = some (.slice bo m' c')) (hd : Nat.blt d n = true)
    (k : ∀ rs', rs' = f ao m c (laid xs i news) → @G P ops Q n ds w0 rest ((d, goInt m') :: fr) rs') :
    @G P ops Q n ds w0 (⟨some d, .call ⟨.builtin .copy, #[x, y], #[t, tx]⟩, ty, pos, after, none⟩ :: rest) fr rs := by
  refine G.act hd fun a w pos after hf hw => ?_
  have hsl := hR.get hw
  obtain ⟨l, p1, _⟩ := (hS.upd none 0 0 []).split
  have hw1 := hw.perm p1
  have hrow : rowIn (hp w) e 1 ao m c xs := hw1.at (List.mem_cons_self ..)
  obtain ⟨r1, r2, r3⟩ := hrow
  have hnl := hsl.len
  rcases r3 with ⟨h, h0, hc0⟩ | ⟨g, o, cur, rfl, hg, hn, hcm, hcs, htk⟩
  · -- the row is nil
    subst h h0 hc0
    obtain rfl : i = 0 := by omega
    obtain rfl : m' = 0 := by omega
    obtain rfl : news = [] := List.eq_nil_of_length_eq_zero (by simpa using hnl)
    obtain rfl : xs = [] := List.eq_nil_of_length_eq_zero (by simpa using r1)
    obtain ⟨ti, z0, g1, g2, g3, g4, g5⟩ := hI.get
    have hx' : ev fr x = some (.slice none 0 0) := by rw [hx]; rfl
    have hfc : (Builtin.firstCells ti.size 0 (.slice bo 0 c')).run P w = .ok #[] w := by
      cases bo with
      | none => rfl
      | some q => exact run_firstCells_some (P := P) w ti.size 0 q 0 c' [] (by simp) (fun j v hv => by simp at hv)
    refine ⟨goInt 0, w, ?_, f none 0 0 (laid [] 0 []), ?_, k _ rfl⟩
    · simp [execOp, hf.ev hx', hf.ev hy, resolve, invoke, builtin, Builtin.copy_, run_underlying hU.und, Builtin.lenOf, sizeOf, typeInfo, g1, hfc]
    · obtain ⟨l', q1, q2⟩ := (hS.upd none 0 0 (laid [] 0 [])).split
      have : l.Perm l' := (p1.symm.trans q1).cons_inv
      exact (hw1.perm (this.cons _)).perm q2.symm
  have hg' : w.heap[g]? = some (.cells cur e (0, 0)) := hg
  by_cases hic : i < c
  · rw [sub_some hic, Nat.mul_one] at hx
    have hr := copy_run (ty := ty) hU hI hV w g (o + i) (m - i) (c - i) hsl (by omega)
      (fun q hq => by rw [cell_of_row w g _ cur e (0, 0) hg']; simp; omega) (fun q hq => frozen_of_row w g _ cur e hg')
    have hH := hw1.setRow i news (by omega) hsl.one
    refine ⟨goInt m', w.setCells g (o + i) news, ?_, f (some ⟨g, o, none⟩) m c (laid xs i news), ?_, k _ rfl⟩
    · simp [execOp, hf.ev hx, hf.ev hy, resolve, invoke, builtin, hr]
    · obtain ⟨l', q1, q2⟩ := (hS.upd (some ⟨g, o, none⟩) m c (laid xs i news)).split
      have : l.Perm l' := (p1.symm.trans q1).cons_inv
      exact (hH.perm (this.cons _)).perm q2.symm
  · -- nothing is left of the row, nothing is copied
    obtain rfl : i = c := by omega
    obtain rfl : m = i := by omega
    obtain rfl : m' = 0 := by omega
    obtain rfl : news = [] := List.eq_nil_of_length_eq_zero (by simpa using hnl)
    have hx' : ev fr x = some (.slice (some ⟨g, o, none⟩) 0 0) := by
      rw [hx]; unfold subA; rw [if_pos rfl, Nat.sub_self]
    have hr := copy_run (ty := ty) hU hI hV w g o 0 0 hsl (Nat.le_refl _) (fun q hq => by simp at hq) (fun q hq => by simp at hq)
    have hlaid : laid xs m [] = xs := by unfold laid; simp
    refine ⟨goInt 0, w, ?_, f (some ⟨g, o, none⟩) m m (laid xs m []), ?_, k _ rfl⟩
    · simp [execOp, hf.ev hx', hf.ev hy, resolve, invoke, builtin, hr]
      rfl
    · rw [hlaid]
      obtain ⟨l', q1, q2⟩ := (hS.upd (some ⟨g, o, none⟩) m m xs).split
      have : l.Perm l' := (p1.symm.trans q1).cons_inv
      exact (hw1.perm (this.cons _)).perm q2.symm
end
end Go.Proofs.YtmceappjldcbmaaGreatDoor
/-
  THE KIT OF MY OWN, TWENTY-THIRD PART: strings as lists of bytes; variables and rows of a run and 256 flags. Over any program; no condition.
-/
namespace Go.Proofs.YtmceappjldcbmaaGreatDoor
open Go.RowKit Go.Sort
set_option linter.unusedVariables false
set_option linter.unusedSimpArgs false

def sOf (l : List UInt8) : ByteArray := ⟨l.toArray⟩
theorem sOf_size (l : List UInt8) : (sOf l).size = l.length := by simp [sOf, ByteArray.size]
theorem sOf_inj {a b : List UInt8} : sOf a = sOf b ↔ a = b := by
  constructor
  · intro h
    have := congrArg (fun s : ByteArray => s.data.toList) h
    simpa [sOf] using this
  · intro h; rw [h]
theorem sOf_ext (l : List UInt8) (a b : Nat) : (sOf l).extract a b = sOf ((l.drop a).take (b - a)) := by
  apply ByteArray.ext
  simp [sOf, ByteArray.data_extract]
/-- a part's cells -/
def eP (f : Nat → Bool) : List Value := (List.range 257).map fun i => .bool (f i)
def upd (f : Nat → Bool) (j : Nat) (v : Bool) : Nat → Bool := fun i => if i = j then v else f i
def noP : Nat → Bool := fun _ => false
instance : Inhabited (Nat → Bool) := ⟨noP⟩
theorem eP_len (f : Nat → Bool) : (eP f).length = 257 := by simp [eP]
theorem eP_one (f : Nat → Bool) : ∀ u ∈ eP f, u.oneCell' = true := fun u hu => by
  obtain ⟨i, _, rfl⟩ := List.mem_map.1 hu; rfl
instance : Enc eP 257 := ⟨eP_len, eP_one⟩

section
variable {P : Program} {ops : Array Oper} {Q : Exit → Act → World → Prop} {K : Act → Prop} {n : Nat} {ds : List Deferred} {w0 : World} {rest : List Oper} {fr : Slots} {rs rs' : List Res} {ty t tx t' : TypeId} {x y z : Operand} {pos : String} {after : Array Edge}
theorem Ex.lenO {l : List UInt8} [hU : Und P t .string] (hx : ev fr x = some (.string (sOf l))) : Ex P n w0 rs fr (.call ⟨.builtin .len, #[x], #[t]⟩) ty (.int .i64 (l.length : Int)) := by
  have := Ex.lenS (P := P) (n := n) (w0 := w0) (rs := rs) (ty := ty) (t := t) hx
  rwa [sOf_size] at this
theorem Ex.indexO {l : List UInt8} {k : Nat} {KK : IntKind} [hU : Und P t .string] (hx : ev fr x = some (.string (sOf l))) (hy : ev fr y = some (.int KK (k : Int))) (hk : k < l.length) : Ex P n w0 rs fr (.index t x y) ty (.int .u8 ((l.getD k 0).toNat : Int)) := by
  have := Ex.indexS (P := P) (n := n) (w0 := w0) (rs := rs) (ty := ty) (t := t) hx hy (by rw [sOf_size]; exact hk)
  simpa [sOf] using this
theorem Ex.subO {l : List UInt8} {a b : Nat} {lo hi : Option Operand} [hU : Und P t .string] (hx : ev fr x = some (.string (sOf l))) (hlo : (lo = none ∧ a = 0) ∨ ∃ z k, lo = some z ∧ ev fr z = some (.int k (a : Int))) (hhi : (hi = none ∧ b = l.length) ∨ ∃ z k, hi = some z ∧ ev fr z = some (.int k (b : Int))) (hlr : a ≤ b ∧ b ≤ l.length) :
    Ex P n w0 rs fr (.slice t x lo hi none) ty (.string (sOf ((l.drop a).take (b - a)))) := by
  have := Ex.subS (P := P) (n := n) (w0 := w0) (rs := rs) (ty := ty) (t := t) (l := a) (r := b) hx hlo (by rw [sOf_size]; exact hhi) (by rw [sOf_size]; exact hlr)
  rwa [sOf_ext] at this
theorem Ex.subLo {l : List UInt8} {a : Nat} {k : IntKind} [hU : Und P t .string] (hx : ev fr x = some (.string (sOf l))) (hz : ev fr z = some (.int k (a : Int))) (ha : a ≤ l.length) : Ex P n w0 rs fr (.slice t x (some z) none none) ty (.string (sOf (l.drop a))) := by
  have := Ex.subO (P := P) (n := n) (w0 := w0) (rs := rs) (ty := ty) (t := t) (a := a) (b := l.length) (lo := some z) (hi := none) hx (.inr ⟨z, k, rfl, hz⟩) (.inl ⟨rfl, rfl⟩) ⟨ha, Nat.le_refl _⟩
  rwa [List.take_of_length_le (by rw [List.length_drop]; exact Nat.le_refl _)] at this
theorem Ex.subHi {l : List UInt8} {b : Nat} {k : IntKind} [hU : Und P t .string] (hx : ev fr x = some (.string (sOf l))) (hz : ev fr z = some (.int k (b : Int))) (hb : b ≤ l.length) : Ex P n w0 rs fr (.slice t x none (some z) none) ty (.string (sOf (l.take b))) := by
  have := Ex.subO (P := P) (n := n) (w0 := w0) (rs := rs) (ty := ty) (t := t) (a := 0) (b := b) (lo := none) (hi := some z) hx (.inl ⟨rfl, rfl⟩) (.inr ⟨z, k, rfl, hz⟩) ⟨Nat.zero_le _, hb⟩
  rwa [List.drop_zero, Nat.sub_zero] at this
theorem Ex.eqO {a b : List UInt8} (hx : ev fr x = some (.string (sOf a))) (hy : ev fr y = some (.string (sOf b))) : Ex P n w0 rs fr (.binOp .eql t x y t') ty (.bool (decide (a = b))) := by
  have := Ex.eqS (P := P) (n := n) (w0 := w0) (rs := rs) (ty := ty) (t := t) (t' := t') hx hy
  rwa [show decide (sOf a = sOf b) = decide (a = b) from decide_eq_decide.2 sOf_inj] at this
theorem Ex.neO {a b : List UInt8} (hx : ev fr x = some (.string (sOf a))) (hy : ev fr y = some (.string (sOf b))) : Ex P n w0 rs fr (.binOp .neq t x y t') ty (.bool (decide (¬ a = b))) := by
  have := Ex.neS (P := P) (n := n) (w0 := w0) (rs := rs) (ty := ty) (t := t) (t' := t') hx hy
  rwa [show decide (¬ sOf a = sOf b) = decide (¬ a = b) from decide_eq_decide.2 (not_congr sOf_inj)] at this
theorem eadr_badr (b j k : Nat) : eadr (some (badr b j)) k = badr b (j + k) := badr_add b j k
theorem Ex.indexPB {m e bytes k b j : Nat} {KK : IntKind} {zs : List Value} [hU : Und P t (.array m e)] [hI : Inf P e 1 bytes zs] (hx : ev fr x = some (.pointer (some (badr b j)))) (hy : ev fr y = some (.int KK (k : Int))) (hk : k < m) : Ex P n w0 rs fr (.indexAddr t x y) ty (.pointer (some (badr b (j + k)))) := by
  have := Ex.indexArr (P := P) (n := n) (w0 := w0) (rs := rs) (ty := ty) (t := t) hx hy hk
  rwa [Nat.mul_one, eadr_badr] at this
end
end Go.Proofs.YtmceappjldcbmaaGreatDoor
/-
  THE KIT OF MY OWN, THIRTY-SECOND PART: pointers compared; a string as bytes and bytes as a string; many resources as one in a contract; three ready operations of a drawn region. Over any program; no condition.
-/
namespace Go.Proofs.YtmceappjldcbmaaGreatDoor
open Go.RowKit Go.Sort
set_option linter.unusedVariables false
set_option linter.unusedSimpArgs false
section
variable {P : Program} {ops : Array Oper} {Q : Exit → Act → World → Prop} {n : Nat} {ds : List Deferred} {w0 : World} {rest : List Oper} {fr : Slots} {rs rs' : List Res} {ty t tx t' : TypeId} {x y z : Operand} {pos : String} {after : Array Edge}


theorem equal_ptr0 {e : TypeId} (hU : Und P t (.pointer e)) (a : Option Addr) (w : World) : (Op.equal t (.pointer a) (.pointer none)).run P w = .ok a.isNone w := by
  unfold Op.equal
  rw [show Op.maxDepth = 9999 + 1 from rfl]
  unfold Op.equalIn
  simp only [Sem.run_bind, run_underlying hU.und, Result.andThen_ok]
  cases a <;> simp
theorem Ex.eqP0 {e : TypeId} {a : Option Addr} [hU : Und P t (.pointer e)] (hx : ev fr x = some (.pointer a)) (hy : ev fr y = some (.pointer none)) : Ex P n w0 rs fr (.binOp .eql t x y t') ty (.bool a.isNone) :=
  fun _ w _ _ _ _ hf _ => by
    have := equal_ptr0 hU a w
    simp [execOp, hf.ev hx, hf.ev hy, binOp, eqGuard, this]

theorem Holds.starIns {w : World} : ∀ {l : List Res} {rs : List Res}, Holds w0 w (l ++ rs) → Holds w0 w (.own (Star l) :: rs)
  | [], rs, H => Holds.starNil H
  | r :: l, rs, H => by
    have h1 : Holds w0 w (l ++ r :: rs) := H.perm List.perm_middle.symm
    have h2 : Holds w0 w (r :: .own (Star l) :: rs) := (Holds.starIns h1).perm (List.Perm.swap ..)
    exact h2.starIn
theorem GE.nilvec {x : Exit} (e : TypeId) (size : Nat) (k : @GE Q x n ds w0 fr (.vec e size none 0 0 [] :: rs)) : @GE Q x n ds w0 fr rs := fun a w hf hw => k a w hf (hw.nilvec e size)
theorem GC.nilsl {cd : Code} (size : Nat) (k : @GC P cd Q n ds w0 fr (.sl none 0 0 size [] :: rs)) : @GC P cd Q n ds w0 fr rs := fun a w hf hw => k a w hf ((hw.nilvec 0 size).frz (VecFrz.here))
theorem G.nilsl (size : Nat) (k : @G P ops Q n ds w0 rest fr (.sl none 0 0 size [] :: rs)) : @G P ops Q n ds w0 rest fr rs := fun a w hf hw => k a w hf ((hw.nilvec 0 size).frz (VecFrz.here))
/-- a whole datum in a variable's block -/
theorem Ex.loadWh {α : Type} {enc : α → List Value} {s b bytes T' : Nat} {zs : List Value} {q : α} [hA : Agg P t] [hI : Inf P t s bytes zs] [hE : Enc enc s] (h : ev fr x = some (.pointer (some (badr b 0)))) [hB : BlkAt rs b T' (enc q)] : Ex P n w0 rs fr (.load t x) ty (.agg (enc q).toArray) :=
  Ex.loadBA h (by rw [List.drop_zero, List.take_of_length_le (Nat.le_of_eq (hE.len q))]) (hE.len q)
theorem G.storeWh {α : Type} {enc : α → List Value} {s b bytes T' : Nat} {zs cs : List Value} {q : α} [hI : Inf P t s bytes zs] [hE : Enc enc s] (hx : ev fr x = some (.pointer (some (badr b 0)))) (hy : ev fr y = some (.agg (enc q).toArray)) (hu : Upd rs (.blk b T' cs) (.blk b T' (enc q)) rs') (hl : cs.length = s)
    (k : @G P ops Q n ds w0 rest fr rs') : @G P ops Q n ds w0 (⟨none, .store t x y, ty, pos, after, none⟩ :: rest) fr rs := by
  have e : cs.take 0 ++ enc q ++ cs.drop (0 + (enc q).length) = enc q := by
    rw [List.take_zero, List.nil_append, Nat.zero_add, hE.len, ← hl, List.drop_length, List.append_nil]
  rw [← e] at hu
  exact G.storeBA (vs := enc q) (cs := cs) (hB := ⟨⟨T', hu⟩⟩) hx hy (hE.len q) (List.all_eq_true.2 (hE.one q)) (by rw [hE.len, hl]; simp) k
end
section
variable {P : Program} {ops : Array Oper} {T : List Nat} {rc : List Res} {Q : Exit → Act → World → Prop} {n : Nat} {ds : List Deferred} {w0 : World} {fuel : Nat} {listed : Array Bool} {fr : Slots} {rs : List Res}
end
end Go.Proofs.YtmceappjldcbmaaGreatDoor
/-
  THE KIT OF MY OWN, THIRTY-THIRD PART: a range over a string, valid UTF-8 or not; calls of the library's entries; scopes that no goto leaves; a number as a string. Over any program; no condition.
-/
namespace Go.Proofs.YtmceappjldcbmaaGreatDoor
open Go.RowKit Go.Sort
set_option linter.unusedVariables false
set_option linter.unusedSimpArgs false
theorem sOf_get (l : List UInt8) (k : Nat) : ((sOf l).get! k).toNat = (l.getD k 0).toNat := by
  congr 1
  show (l.toArray)[k]! = l.getD k 0
  rw [List.getElem!_toArray]
  by_cases h : k < l.length
  · rw [List.getD_eq_getElem?_getD, List.getElem?_eq_getElem h, getElem!_pos l k h]; rfl
  · rw [List.getD_eq_getElem?_getD, List.getElem?_eq_none (by omega), getElem!_neg l k h]; rfl
theorem decode_hi (l : List UInt8) (i : Nat) (h : i < l.length) (hb : 128 ≤ (l.getD i 0).toNat) :
    ∃ c w, Utf8.decode (sOf l) i = (c, w) ∧ 128 ≤ c ∧ c < 1114112 ∧ Utf8.valid (c : Int) = true ∧ 1 ≤ w ∧ i + w ≤ l.length ∧ ∀ k, k < w → 128 ≤ (l.getD (i + k) 0).toNat := by
  have hsz : (sOf l).size = l.length := by simp [sOf, ByteArray.size]
  have one : ∃ c w, ((Utf8.runeError, 1) : Nat × Nat) = (c, w) ∧ 128 ≤ c ∧ c < 1114112 ∧ Utf8.valid (c : Int) = true ∧ 1 ≤ w ∧ i + w ≤ l.length ∧ ∀ k, k < w → 128 ≤ (l.getD (i + k) 0).toNat :=
    ⟨_, _, rfl, by decide, by decide, by decide, Nat.le_refl _, h, fun k hk => by rw [show k = 0 by omega]; exact hb⟩
  unfold Utf8.decode
  simp only [sOf_get, hsz, Nat.add_zero]
  rw [if_neg (by omega)]
  have hv : ∀ c : Nat, (c < 55296 ∨ (57344 ≤ c ∧ c ≤ 1114111)) → Utf8.valid (c : Int) = true := by
    intro c hc
    unfold Utf8.valid
    simp only [Bool.or_eq_true, Bool.and_eq_true, decide_eq_true_eq]
    omega
  by_cases c2 : ((l.getD i 0).toNat / 32 == 6 && (decide (i + 1 < l.length) && (l.getD (i + 1) 0).toNat / 64 == 2)) = true
  · rw [if_pos c2]
    simp only [Bool.and_eq_true, beq_iff_eq, decide_eq_true_eq] at c2
    split
    · refine ⟨_, _, rfl, by omega, by omega, hv _ (by omega), by decide, by omega, fun k hk => ?_⟩
      have : k = 0 ∨ k = 1 := by omega
      rcases this with rfl | rfl
      · exact hb
      · omega
    · exact one
  · rw [if_neg c2]
    by_cases c3 : ((l.getD i 0).toNat / 16 == 14 && (decide (i + 1 < l.length) && (l.getD (i + 1) 0).toNat / 64 == 2) && (decide (i + 2 < l.length) && (l.getD (i + 2) 0).toNat / 64 == 2)) = true
    · rw [if_pos c3]
      simp only [Bool.and_eq_true, beq_iff_eq, decide_eq_true_eq] at c3
      split
      · rename_i hc
        simp only [Bool.and_eq_true, decide_eq_true_eq] at hc
        refine ⟨_, _, rfl, by omega, by omega, hc.2, by decide, by omega, fun k hk => ?_⟩
        have : k = 0 ∨ k = 1 ∨ k = 2 := by omega
        rcases this with rfl | rfl | rfl
        · exact hb
        · omega
        · omega
      · exact one
    · rw [if_neg c3]
      split
      · rename_i c4
        simp only [Bool.and_eq_true, beq_iff_eq, decide_eq_true_eq] at c4
        split
        · rename_i hc
          simp only [Bool.and_eq_true, decide_eq_true_eq] at hc
          have hlt := hc.2
          unfold Utf8.valid at hlt
          simp only [Bool.or_eq_true, Bool.and_eq_true, decide_eq_true_eq] at hlt
          refine ⟨_, _, rfl, by omega, by omega, hc.2, by decide, by omega, fun k hk => ?_⟩
          have : k = 0 ∨ k = 1 ∨ k = 2 ∨ k = 3 := by omega
          rcases this with rfl | rfl | rfl | rfl
          · exact hb
          · omega
          · omega
          · omega
        · exact one
      · exact one
/-- texts -/
def eO (s : List UInt8) : List Value := [.string (sOf s)]
instance : Enc eO 1 := ⟨fun _ => rfl, fun x u hu => by simp [eO] at hu; subst hu; rfl⟩
/-- a number as a string -/
def encL (r : Int) : List UInt8 := (Utf8.encode r).data.toList
theorem enc_sOf (r : Int) : Utf8.encode r = sOf (encL r) := by
  unfold encL sOf; rfl
theorem lastB (k : Nat) (hk : k < 64) : 128 ≤ (UInt8.ofNat (128 + k)).toNat := by
  rw [UInt8.toNat_ofNat']; omega
theorem enc_hi (c : Nat) (h : 128 ≤ c) (hv : Utf8.valid (c : Int) = true) : ∃ b : List UInt8, (Utf8.encode (c : Int)) = sOf b ∧ 2 ≤ b.length ∧ b.length ≤ 4 ∧ 128 ≤ (b.getLast?.getD 0).toNat := by
  have hl := lastB (c % 64) (by omega)
  unfold Utf8.encode sOf
  simp only [hv, if_true, Int.toNat_natCast]
  rw [if_neg (by omega)]
  by_cases h1 : c < 0x800
  · rw [if_pos h1]
    exact ⟨[_, _], rfl, by simp, by simp, hl⟩
  · rw [if_neg h1]
    by_cases h2 : c < 0x10000
    · rw [if_pos h2]
      exact ⟨[_, _, _], rfl, by simp, by simp, hl⟩
    · rw [if_neg h2]
      exact ⟨[_, _, _, _], rfl, by simp, by simp, hl⟩
theorem encL_of {r : Int} {b : List UInt8} (h : Utf8.encode r = sOf b) : encL r = b := congrArg (fun s : ByteArray => s.data.toList) h
theorem last_getD (b : List UInt8) (h : 128 ≤ (b.getLast?.getD 0).toNat) : 128 ≤ (b.getD (b.length - 1) 0).toNat := by
  rw [List.getD_eq_getElem?_getD, ← List.getLast?_eq_getElem?]; exact h
theorem encL_hi (c : Nat) (h : 128 ≤ c) (hv : Utf8.valid (c : Int) = true) : ∃ b : List UInt8, encL (c : Int) = b ∧ 2 ≤ b.length ∧ b.length ≤ 4 ∧ 128 ≤ (b.getD (b.length - 1) 0).toNat :=
  match enc_hi c h hv with
  | ⟨b, h1, h2, h3, h4⟩ => ⟨b, encL_of h1, h2, h3, last_getD b h4⟩
theorem decode_lo (l : List UInt8) (i : Nat) (h : i < l.length) (hb : (l.getD i 0).toNat < 128) : Utf8.decode (sOf l) i = ((l.getD i 0).toNat, 1) := by
  unfold Utf8.decode
  simp only [sOf_get, Nat.add_zero]
  rw [if_pos (by omega)]
/-- where a range over a string stands -/
def IterR (b : Nat) (s : ByteArray) (pos : Nat) : Own2 where
  sat _ o := o b = some (.stringIter s pos)
  mono := fun _ ho h => ho _ _ h
section
variable {P : Program} {ops : Array Oper} {Q : Exit → Act → World → Prop} {n : Nat} {ds : List Deferred} {w0 : World} {rest : List Oper} {fr : Slots} {rs rs' : List Res} {ty t tx t' : TypeId} {x y z : Operand} {pos : String} {after : Array Edge}
theorem Ex.convIS {src dst : TypeId} {k kk : IntKind} {a : Int} [hU : Und P src (.int kk)] [hV : Und P dst .string] (hx : ev fr x = some (.int k a)) : Ex P n w0 rs fr (.convert src dst x) ty (.string (sOf (encL a))) :=
  fun _ w _ _ _ _ hf _ => by
    have := run_convert_int_string (P := P) w src dst k a (by rw [hU.und]; rfl) hV.und
    simp only [execOp, hf.ev hx, Sem.run_bind, this, enc_sOf]
    rfl
theorem iter_blk {w : World} {b p : Nat} {s : ByteArray} (H : Holds w0 w rs) (hm : Res.own (IterR b s p) ∈ rs) : w.heap[b]? = some (.stringIter s p) := H.at hm
theorem Holds.setIter {w : World} {b p p' : Nat} {s : ByteArray} (H : Holds w0 w (.own (IterR b s p) :: rs)) : Holds w0 { w with heap := w.heap.setIfInBounds b (.stringIter s p') } (.own (IterR b s p') :: rs) := by
  refine H.step rfl rfl rfl (by simp) fun f o hr hf ho => ?_
  have hr' : o b = some (.stringIter s p) := hr
  have hb : w.heap[b]? = some (.stringIter s p) := ho _ _ hr'
  have hlt := (Array.getElem?_eq_some_iff.1 hb).1
  refine ⟨Hp.one b (.stringIter s p'), Hp.one_self _ _, Hp.one_le ?_, fun i hi hno => ?_⟩
  · show (w.heap.setIfInBounds b _)[b]? = _
    simp [hlt]
  · have hib : i ≠ b := fun e => by rw [e, hr'] at hno; cases hno
    refine ⟨Hp.one_ne _ hib, ?_⟩
    show (w.heap.setIfInBounds b _)[i]? = w.heap[i]?
    rw [Array.getElem?_setIfInBounds_ne (Ne.symm hib)]
theorem G.rangeS {d : Nat} {l : List UInt8} [hU : Und P t .string] (hx : ev fr x = some (.string (sOf l))) (hd : Nat.blt d n = true) (k : ∀ b, @G P ops Q n ds w0 rest ((d, .pointer (some (badr b 0))) :: fr) (.own (IterR b (sOf l) 0) :: rs)) :
    @G P ops Q n ds w0 (⟨some d, .range t x, ty, pos, after, none⟩ :: rest) fr rs := by
  refine G.act hd fun a w pos after hf hw => ⟨.pointer (some (badr w.heap.size 0)), w.iter (sOf l) 0, ?_, .own (IterR w.heap.size (sOf l) 0) :: rs, ?_, k w.heap.size⟩
  · have := run_range_string (P := P) w t (sOf l) hU.und
    simp only [execOp, hf.ev hx, Sem.run_bind, this]
    rfl
  · exact hw.add rfl rfl rfl (by simp [World.iter]) (fun k hk => Below.heap_alloc _ _ _ hk) (Hp.one w.heap.size (.stringIter (sOf l) 0)) (Hp.one_le (heap_alloc_new w _)) (fun k hk => Hp.one_ne _ (by omega)) (fun f _ => Hp.one_self _ _)
theorem next_end {w : World} {b p : Nat} {s : ByteArray} (hb : w.heap[b]? = some (.stringIter s p)) (h : ¬ p < s.size) : (Instr.next (.pointer (some (badr b 0))) true ty).run P w = .ok (.tuple #[.bool false]) w := by
  simp [Instr.next, getObj, Sem.run, badr, hb, h]
theorem next_go {w : World} {b p c wd : Nat} {s : ByteArray} (hb : w.heap[b]? = some (.stringIter s p)) (h : p < s.size) (hc : Utf8.decode s p = (c, wd)) :
    (Instr.next (.pointer (some (badr b 0))) true ty).run P w = .ok (.tuple #[.bool true, .int .i64 (p : Int), .int .i32 (c : Int)]) { w with heap := w.heap.setIfInBounds b (.stringIter s (p + wd)) } := by
  have hs : ∀ o, (setObj b o).run P w = .ok () { w with heap := w.heap.setIfInBounds b o } := fun o => by simp [setObj, Sem.run, hb]
  simp [Instr.next, getObj, Sem.run_bind, Sem.run, badr, hb, h, hc]
  simp [setObj, Sem.run, hb, goInt]
theorem G.nextE {d b : Nat} {l : List UInt8} {p : Nat} (hx : ev fr x = some (.pointer (some (badr b 0)))) (hm : Res.own (IterR b (sOf l) p) ∈ rs) (h : ¬ p < l.length) (hd : Nat.blt d n = true) (k : @G P ops Q n ds w0 rest ((d, .tuple #[.bool false]) :: fr) rs) :
    @G P ops Q n ds w0 (⟨some d, .next x true, ty, pos, after, none⟩ :: rest) fr rs :=
  G.act hd fun a w pos after hf hw => ⟨_, w, by
    have := next_end (P := P) (ty := ty) (iter_blk hw hm) (by rw [sOf_size]; exact h)
    simp only [execOp, hf.ev hx, Sem.run_bind, this]
    rfl, rs, hw, k⟩
theorem G.nextS {d b c wd : Nat} {l : List UInt8} {p : Nat} (hx : ev fr x = some (.pointer (some (badr b 0)))) (h : p < l.length) (hc : Utf8.decode (sOf l) p = (c, wd)) (hu : Upd rs (.own (IterR b (sOf l) p)) (.own (IterR b (sOf l) (p + wd))) rs') (hd : Nat.blt d n = true)
    (k : @G P ops Q n ds w0 rest ((d, .tuple #[.bool true, .int .i64 (p : Int), .int .i32 (c : Int)]) :: fr) rs') :
    @G P ops Q n ds w0 (⟨some d, .next x true, ty, pos, after, none⟩ :: rest) fr rs := by
  refine G.act hd fun a w pos after hf hw => ?_
  obtain ⟨l0, h1, h2⟩ := hu.split
  have hb : w.heap[b]? = some (.stringIter (sOf l) p) := iter_blk (hw.perm h1) (List.mem_cons_self ..)
  have := next_go (P := P) (ty := ty) hb (by rw [sOf_size]; exact h) hc
  refine ⟨_, _, ?_, rs', ((hw.perm h1).setIter (p' := p + wd)).perm h2.symm, k⟩
  simp only [execOp, hf.ev hx, Sem.run_bind, this]
  rfl
/-- a call of one of the library's entries, which only reads -/
theorem Ex.ext {f : FuncId} {c : Operand} {xs : List Operand} {ts : Array TypeId} {vs : List Value} {v : Value} (h : ∀ w, (callFunc f vs.toArray).run P w = .ok (.value v) w) (hc : ev fr c = some (.func (.func f) #[] #[])) (hx : evs fr xs = some vs) : Ex P n w0 rs fr (.call ⟨.value c, xs.toArray, ts⟩) ty v :=
  fun a w _ _ _ _ hf _ => by
    have hm := hf.evs hx
    subst hm
    have h' := h w
    simp [execOp, resolve, hf.ev hc, Deferred.ofValue, invoke, List.map_toArray, h']
theorem GC.scope {c : Code} (h : @GC P c (Exit.noGoto Q) n ds w0 fr rs) : @GC P (.scope c) Q n ds w0 fr rs := fun a w hf hw => wp_scope_straight (h a w hf hw)
instance {Q : Exit → Act → World → Prop} [h : NPI Q] : NPI (Exit.noGoto Q) := ⟨fun c a w hq => h.h c a w hq⟩
theorem GE.ng_ret (h : @GE Q .ret n ds w0 fr rs) : @GE (Exit.noGoto Q) .ret n ds w0 fr rs := fun a w hf hw => h a w hf hw
end
end Go.Proofs.YtmceappjldcbmaaGreatDoor
/-
  CONTRACTS THAT KEEP THE WORLD BELOW THEIR START (the library's shelf) AS CONTRACTS OF THIS KIT.
-/
namespace Go.Proofs.YtmceappjldcbmaaGreatDoor
open Go.RowKit
theorem Holds.kept {w0 w w' : World} {rs : List Res} (H : Holds w0 w rs) (hB : Below w.heap.size w w') : Holds w0 w' rs := by
  obtain ⟨h1, h2, h3, h4, f, l, hl, hf, h0, hall, hpw⟩ := H
  have hle : (hp w).le (hp w') := fun k o hk => by
    have hlt : k < w.heap.size := by
      rcases Nat.lt_or_ge k w.heap.size with h | h
      · exact h
      · have : w.heap[k]? = some o := hk
        rw [Array.getElem?_eq_none h] at this
        cases this
    show w'.heap[k]? = some o
    rw [hB.block k hlt]
    exact hk
  exact ⟨hB.os.trans h1, hB.tape.trans h2, hB.output.trans h3, Nat.le_trans h4 hB.size, f, l, hl, hf.trans hle, h0, fun x hx => ⟨(hall x hx).1, (hall x hx).2.1.trans hle, (hall x hx).2.2⟩, hpw⟩
end Go.Proofs.YtmceappjldcbmaaGreatDoor
/-
  A CONTRACT THAT ONLY READS, LENT WHAT IS OWNED: whatever can be read may be read by it; what it makes is new.
-/
namespace Go.Proofs.YtmceappjldcbmaaGreatDoor
open Go.RowKit
/-- a resource that speaks of its own blocks alone -/
def OwnR (r : Res) : Prop := ∀ f f' o, r.sat f o → r.sat f' o
theorem Holds.both {w0 w w' : World} {rs give : List Res} (H1 : Holds w0 w rs) (H2 : Holds w w' give) (ho : ∀ r ∈ give, OwnR r) : Holds w0 w' (give ++ rs) := by
  obtain ⟨a1, a2, a3, a4, f, l, hl, hf, h0, hall, hpw⟩ := H1
  obtain ⟨b1, b2, b3, b4, g, m, hm, hg, g0, gall, gpw⟩ := H2
  have hfg : f.le g := hf.trans g0
  have hww : (hp w).le (hp w') := g0.trans hg
  refine ⟨b1.trans a1, b2.trans a2, b3.trans a3, Nat.le_trans a4 b4, f, m ++ l, by rw [List.map_append, hm, hl], hf.trans hww, h0, fun x hx => ?_, ?_⟩
  · rcases List.mem_append.1 hx with hx | hx
    · obtain ⟨c1, c2, c3⟩ := gall x hx
      exact ⟨ho x.1 (hm ▸ List.mem_map_of_mem hx) _ _ _ c1, c2, c3.left hfg⟩
    · obtain ⟨c1, c2, c3⟩ := hall x hx
      exact ⟨c1, c2.trans hww, c3⟩
  · refine List.pairwise_append.2 ⟨gpw, hpw, fun x hx y hy => ?_⟩
    exact ((gall x hx).2.2.left ((hall y hy).2.1.trans g0)).symm
theorem Holds.front {w0 w : World} {b : List Res} : ∀ {a : List Res}, Holds w0 w (a ++ b) → Holds w0 w a := by
  intro a H
  have h := H.perm (List.perm_append_comm)
  clear H
  induction b with
  | nil => exact h
  | cons r b ih => exact ih h.tail
theorem Spec.lend {P : Program} {f : FuncId} {args : List Value} {need need' : List Res} {post post' : Value → List Res → Prop} (S : Spec P f args need post) (hn : ∀ {w0 w : World} {rest : List Res}, Holds w0 w (need' ++ rest) → Holds w w need)
    (hp : ∀ v give, post v give → ∃ own rest, (∀ r ∈ own, OwnR r) ∧ give = own ++ rest ∧ post' v (own ++ need')) : Spec P f args need' post' := fun w0 rest w H => by
  refine (S w [] w (by rw [List.append_nil]; exact hn H)).mono ?_
  rintro e w' ⟨v, give, hv, he, hh⟩
  obtain ⟨own, r2, ho, rfl, h2⟩ := hp v give hv
  rw [List.append_nil] at hh
  exact ⟨v, own ++ need', h2, he, by rw [List.append_assoc]; exact H.both hh.front ho⟩
theorem Holds.sl0 {w : World} {ao : Option Addr} {n c size : Nat} {xs : List Value} (S : Sl w ao n c size xs) (hs : 0 < size) : Holds w w [.sl ao n c size xs] := by
  refine ⟨rfl, rfl, rfl, Nat.le_refl _, hp w, [(.sl ao n c size xs, fun _ => none)], rfl, .refl _, .refl _, fun x hx => ?_, List.pairwise_singleton _ _⟩
  rw [List.mem_singleton] at hx
  subst hx
  refine ⟨⟨S.len, S.one, S.le, S.cap, S.nil, fun h0 => ?_⟩, fun k o h => (nomatch h), fun k => .inr rfl⟩
  obtain ⟨b, o, hao, hb, hg⟩ := S.get h0
  have hx0 : 0 < xs.length := by rw [S.len]; exact Nat.mul_pos h0 hs
  have key : ∀ j u, xs[j]? = some u → ∃ cur t z, w.heap[b]? = some (.cells cur t z) ∧ cur[o + j]? = some u := fun j u hu => by
    have hc : (match w.heap[b]? with | some (.cells c _ _) => _ | _ => _) = some u := hg j u hu
    cases e : w.heap[b]? with
    | none => rw [e] at hc; cases hc
    | some x =>
      rw [e] at hc
      cases x with
      | cells cur t z => exact ⟨cur, t, z, rfl, by simpa using hc⟩
      | _ => cases hc
  obtain ⟨cur, t, z, e, _⟩ := key 0 xs[0] (List.getElem?_eq_getElem hx0)
  refine ⟨b, o, cur, t, z, hao, e, fun j u hu => ?_⟩
  obtain ⟨cur', t', z', e', h'⟩ := key j u hu
  rw [e] at e'
  injection e' with e'
  injection e' with e1 _ _
  rw [e1]; exact h'
end Go.Proofs.YtmceappjldcbmaaGreatDoor
/-
  THE KIT OF MY OWN, THIRTY-SEVENTH PART: values of interface types; maps by names whose entries come and go; a range over a map; what is read out of whatever is known. Over any program; no condition.
-/
namespace Go.Proofs.YtmceappjldcbmaaGreatDoor
open Go.RowKit Go.Sort
set_option linter.unusedVariables false
set_option linter.unusedSimpArgs false
section
variable {P : Program} {ops : Array Oper} {Q : Exit → Act → World → Prop} {n : Nat} {ds : List Deferred} {w0 : World} {rest : List Oper} {fr : Slots} {rs rs' : List Res} {ty t tx t' : TypeId} {x y z : Operand} {pos : String} {after : Array Edge}
theorem Ex.mkIface {e : TypeId} {v : Value} [hU : Und P t (.pointer e)] (hx : ev fr x = some v) : Ex P n w0 rs fr (.makeInterface t x) ty (.iface t v) :=
  fun a w _ _ _ _ hf _ => by simp [execOp, Instr.makeInterface, hf.ev hx, run_underlying hU.und]
theorem Ex.asYes {xt e : TypeId} {v : Value} [hU : Und P t (.pointer e)] (hx : ev fr x = some (.iface t v)) : Ex P n w0 rs fr (.typeAssert x xt t true) ty (.tuple #[v, .bool true]) :=
  fun a w _ _ _ _ hf _ => by simp [execOp, Instr.typeAssert, hf.ev hx, run_underlying hU.und]
theorem Ex.asNo {xt t' e : TypeId} {v zv : Value} [hU : Und P t (.pointer e)] [hZ : Zer P t zv] (hx : ev fr x = some (.iface t' v)) (hne : Nat.beq t' t = false) : Ex P n w0 rs fr (.typeAssert x xt t true) ty (.tuple #[zv, .bool false]) :=
  fun a w _ _ _ _ hf _ => by
    have h : ¬ t' = t := fun e => by rw [e, Nat.beq_refl] at hne; cases hne
    simp [execOp, Instr.typeAssert, hf.ev hx, run_underlying hU.und, h, zeroValue_run hZ]
/-- what is read, whatever it is known by -/
theorem Ex.loadH {p : Addr} {v : Value} [hS : Sca P t] (h : ev fr x = some (.pointer (some p))) (hc : ∀ w, Holds w0 w rs → w.cell? p = some v) : Ex P n w0 rs fr (.load t x) ty v :=
  fun a w _ _ _ _ hf hw => by
    have := load_run (P := P) hS (hc w hw)
    simp only [execOp, hf.ev h, Sem.run_bind, this]
    rfl
theorem cell_of_blk {w : World} {b : Nat} {t : TypeId} {cs : List Value} (h : w.heap[b]? = some (.cells cs.toArray t (0, 0))) {j : Nat} {v : Value} (hj : cs[j]? = some v) : w.cell? (badr b j) = some v := by
  unfold World.cell?
  simp [badr, h, hj]

/-- what is known of every world that is met -/
theorem GC.know {c : Code} {p : Prop} (h : ∀ w, Holds w0 w rs → p) (k : p → @GC P c Q n ds w0 fr rs) : @GC P c Q n ds w0 fr rs := fun a w hf hw => k (h w hw) a w hf hw
theorem G.know {p : Prop} (h : ∀ w, Holds w0 w rs → p) (k : p → @G P ops Q n ds w0 rest fr rs) : @G P ops Q n ds w0 rest fr rs := fun a w hf hw => k (h w hw) a w hf hw
theorem GE.len {e : Exit} (ao : Option Addr) {m c size : Nat} {xs : List Value} [h : SlAt rs ao m c size xs] (k : xs.length = m * size ∧ m ≤ c ∧ c ≤ maxLen → @GE Q e n ds w0 fr rs) : @GE Q e n ds w0 fr rs := fun a w hf hw => by
  have S := h.get hw
  exact k ⟨S.len, S.le, S.cap⟩ a w hf hw
/-- names as keys -/
def eNm (k : List UInt8) : Value := .string (sOf k)
abbrev NV := List (List UInt8 × Value)
def entB : NV → List Nat → List MapEntry
  | e :: t, b :: bs => ⟨eNm e.1, e.2, b⟩ :: entB t bs
  | _, _ => []
theorem entB_len : ∀ {L : NV} {bs : List Nat}, bs.length = L.length → (entB L bs).length = L.length
  | [], [], _ => rfl
  | e :: t, b :: bs, h => congrArg Nat.succ (entB_len (Nat.succ.inj h))
theorem entB_get : ∀ {L : NV} {bs : List Nat} (_ : bs.length = L.length) (j : Nat) (h : j < L.length) (h' : j < bs.length), (entB L bs)[j]? = some ⟨eNm L[j].1, L[j].2, bs[j]⟩
  | e :: t, b :: bs, _, 0, _, _ => rfl
  | e :: t, b :: bs, hl, j + 1, h, h' => entB_get (L := t) (bs := bs) (Nat.succ.inj hl) j (Nat.lt_of_succ_lt_succ h) (Nat.lt_of_succ_lt_succ h')
theorem entB_mem : ∀ {L : NV} {bs : List Nat} (_ : bs.length = L.length) {x : MapEntry}, x ∈ entB L bs → ∃ (j : Nat) (h : j < L.length) (h' : j < bs.length), x = ⟨eNm L[j].1, L[j].2, bs[j]⟩
  | [], [], _, x, hx => nomatch hx
  | e :: t, b :: bs, hl, x, hx => by
    rcases List.mem_cons.1 hx with rfl | hx
    · exact ⟨0, Nat.succ_pos _, Nat.succ_pos _, rfl⟩
    · obtain ⟨j, h, h', e⟩ := entB_mem (Nat.succ.inj hl) hx
      exact ⟨j + 1, Nat.succ_lt_succ h, Nat.succ_lt_succ h', e⟩
theorem entB_snoc : ∀ {L : NV} {bs : List Nat} (_ : bs.length = L.length) (k : List UInt8) (v : Value) (c : Nat), entB (L ++ [(k, v)]) (bs ++ [c]) = entB L bs ++ [⟨eNm k, v, c⟩]
  | [], [], _, k, v, c => rfl
  | e :: t, b :: bs, h, k, v, c => congrArg (_ :: ·) (entB_snoc (Nat.succ.inj h) k v c)
theorem entB_erase : ∀ {L : NV} {bs : List Nat} (_ : bs.length = L.length) (j : Nat), (entB L bs).eraseIdx j = entB (L.eraseIdx j) (bs.eraseIdx j)
  | [], [], _, j => rfl
  | e :: t, b :: bs, h, 0 => rfl
  | e :: t, b :: bs, h, j + 1 => congrArg (_ :: ·) (entB_erase (Nat.succ.inj h) j)
theorem entB_find (k : List UInt8) : ∀ (L : NV) (bs : List Nat) (i : Nat), bs.length = L.length → Instr.findNow .string (eNm k) (entB L bs) i = some (lookI k L i)
  | [], [], i, _ => rfl
  | q :: t, b :: bs, i, hl => by
    have ih := entB_find k t bs (i + 1) (Nat.succ.inj hl)
    simp only [entB, Instr.findNow, eNm, Instr.sameNow, lookI, ba_beq]
    by_cases h : k = q.1
    · simp [h]
    · have h' : ¬ sOf k = sOf q.1 := fun e => h (sOf_inj.1 e)
      simp only [h, h', decide_false, if_false]; exact ih
theorem nm_check {kt : TypeId} (hU : Und P kt .string) (em : Bool) (k : List UInt8) (w : World) : (Instr.checkKey em 10000 kt (eNm k)).run P w = .ok () w := by
  rw [show 10000 = 9999 + 1 from rfl]
  unfold Instr.checkKey
  simp [run_underlying hU.und, eNm]
theorem nm_find {kt : TypeId} (hU : Und P kt .string) (k : List UInt8) {L : NV} {bs : List Nat} (hl : bs.length = L.length) (w : World) : (Instr.findKey kt (eNm k) (entB L bs)).run P w = .ok (lookI k L 0) w := by
  unfold Instr.findKey
  simp only [Sem.run_bind, run_underlying hU.und, Result.andThen_ok, entB_find k L bs 0 hl]
  rfl
/-- a map's block: its entries, when each was born, its clock -/
def MapB (b : Nat) (L : NV) (bs : List Nat) (clk : Nat) : Own2 where
  sat _ o := o b = some (.map (entB L bs).toArray clk) ∧ bs.length = L.length ∧ (∀ x ∈ bs, x < clk) ∧ bs.Nodup
  mono := fun _ ho h => ⟨ho _ _ h.1, h.2⟩
/-- what is known of a map in a world -/
def MapW (w : World) (b : Nat) (L : NV) (bs : List Nat) (clk : Nat) : Prop := w.heap[b]? = some (.map (entB L bs).toArray clk) ∧ bs.length = L.length ∧ (∀ x ∈ bs, x < clk) ∧ bs.Nodup
theorem Ex.lookupH {kt et b clk : Nat} {zv : Value} {L : NV} {bs : List Nat} {k : List UInt8} [hU : Und P t (.map kt et)] [hK : Und P kt .string] [hZ : Zer P et zv] (hx : ev fr x = some (.map (some b))) (hy : ev fr y = some (.string (sOf k))) (hb : ∀ w, Holds w0 w rs → MapW w b L bs clk) :
    Ex P n w0 rs fr (.lookup t x y true) ty (.tuple #[((lookI k L 0).map Prod.snd).getD zv, .bool (lookI k L 0).isSome]) :=
  fun a w dst pos after guard hf hw => by
    obtain ⟨h1, h2, h3, h4⟩ := hb w hw
    have hfd := nm_find hK k h2 w
    simp only [execOp, Instr.lookup, hf.ev hx, hf.ev hy, Sem.run_bind, run_underlying hU.und, Result.andThen_ok, getObj_run h1, Sem.run_pure, List.toList_toArray]
    rw [show Value.string (sOf k) = eNm k from rfl, nm_check hK]
    simp only [Result.andThen_ok, hfd]
    cases hl : lookI k L 0 with
    | none => simp [zeroValue_run hZ]
    | some p => simp
theorem Ex.lookupN {kt et b clk : Nat} {zv : Value} {L : NV} {bs : List Nat} {k : List UInt8} [hU : Und P t (.map kt et)] [hK : Und P kt .string] [hZ : Zer P et zv] (hx : ev fr x = some (.map (some b))) (hy : ev fr y = some (.string (sOf k))) (hb : ∀ w, Holds w0 w rs → MapW w b L bs clk) (hl : lookI k L 0 = none) :
    Ex P n w0 rs fr (.lookup t x y true) ty (.tuple #[zv, .bool false]) := by
  have := Ex.lookupH (P := P) (n := n) (ty := ty) (t := t) (kt := kt) (et := et) (zv := zv) hx hy hb
  rw [hl] at this; exact this
theorem Ex.lookupS {kt et b clk j : Nat} {zv v : Value} {L : NV} {bs : List Nat} {k : List UInt8} [hU : Und P t (.map kt et)] [hK : Und P kt .string] [hZ : Zer P et zv] (hx : ev fr x = some (.map (some b))) (hy : ev fr y = some (.string (sOf k))) (hb : ∀ w, Holds w0 w rs → MapW w b L bs clk) (hl : lookI k L 0 = some (j, v)) :
    Ex P n w0 rs fr (.lookup t x y true) ty (.tuple #[v, .bool true]) := by
  have := Ex.lookupH (P := P) (n := n) (ty := ty) (t := t) (kt := kt) (et := et) (zv := zv) hx hy hb
  rw [hl] at this; exact this
theorem Ex.lenMapH {kt et b clk : Nat} {L : NV} {bs : List Nat} [hU : Und P t (.map kt et)] (hx : ev fr x = some (.map (some b))) (hb : ∀ w, Holds w0 w rs → MapW w b L bs clk) : Ex P n w0 rs fr (.call ⟨.builtin .len, #[x], #[t]⟩) ty (.int .i64 (L.length : Int)) :=
  fun a w _ _ _ _ hf hw => by
    obtain ⟨h1, h2, _⟩ := hb w hw
    simp [execOp, hf.ev hx, resolve, invoke, builtin, Builtin.len_, run_underlying hU.und, getObj_run h1, goInt, entB_len h2]
theorem G.makeMapB {d : Nat} (hd : Nat.blt d n = true) (k : ∀ b, @G P ops Q n ds w0 rest ((d, .map (some b)) :: fr) (.own (MapB b [] [] 0) :: rs)) :
    @G P ops Q n ds w0 (⟨some d, .makeMap t none, ty, pos, after, none⟩ :: rest) fr rs := by
  refine G.act hd fun a w pos after hf hw => ⟨.map (some w.heap.size), w.alloc (.map #[] 0), ?_, _, ?_, k w.heap.size⟩
  · simp [execOp, Instr.makeMap]
  · exact hw.add rfl rfl rfl (by simp) (fun k hk => Below.heap_alloc _ _ _ hk) (Hp.one w.heap.size (.map #[] 0)) (Hp.one_le (heap_alloc_new w _)) (fun k hk => Hp.one_ne _ (by omega)) (fun f _ => ⟨Hp.one_self _ _, rfl, (fun x hx => (nomatch hx)), List.nodup_nil⟩)
/-- a map's block turned -/
theorem Holds.turnMap {w : World} {b clk clk' : Nat} {L L' : NV} {bs bs' : List Nat} {rs : List Res} (h1 : bs'.length = L'.length) (h2 : ∀ x ∈ bs', x < clk') (h3 : bs'.Nodup) (H : Holds w0 w (.own (MapB b L bs clk) :: rs)) :
    Holds w0 { w with heap := w.heap.setIfInBounds b (.map (entB L' bs').toArray clk') } (.own (MapB b L' bs' clk') :: rs) := by
  refine H.step rfl rfl rfl (by simp) fun f o hr hf ho => ?_
  have hr' : o b = some (.map (entB L bs).toArray clk) := hr.1
  have hb : w.heap[b]? = some (.map (entB L bs).toArray clk) := ho _ _ hr'
  have hlt := (Array.getElem?_eq_some_iff.1 hb).1
  refine ⟨Hp.one b (.map (entB L' bs').toArray clk'), ⟨Hp.one_self _ _, h1, h2, h3⟩, Hp.one_le ?_, fun i hi hno => ?_⟩
  · show (w.heap.setIfInBounds b _)[b]? = _
    simp [hlt]
  · have hib : i ≠ b := fun e => by rw [e, hr'] at hno; cases hno
    refine ⟨Hp.one_ne _ hib, ?_⟩
    show (w.heap.setIfInBounds b _)[i]? = w.heap[i]?
    rw [Array.getElem?_setIfInBounds_ne (Ne.symm hib)]
theorem mapB_w {w : World} {b clk : Nat} {L : NV} {bs : List Nat} (H : Holds w0 w (.own (MapB b L bs clk) :: rs)) : MapW w b L bs clk := H.at (List.mem_cons_self ..)
/-- an entry that was not there -/
theorem G.mapNew {kt et b clk : Nat} {L : NV} {bs : List Nat} {k : List UInt8} {u : Value} [hU : Und P t (.map kt et)] [hK : Und P kt .string] (hx : ev fr x = some (.map (some b))) (hy : ev fr y = some (.string (sOf k))) (hz : ev fr z = some u) (hu : Upd rs (.own (MapB b L bs clk)) (.own (MapB b (L ++ [(k, u)]) (bs ++ [clk]) (clk + 1))) rs')
    (hj : lookI k L 0 = none) (kk : @G P ops Q n ds w0 rest fr rs') : @G P ops Q n ds w0 (⟨none, .mapUpdate t x y z, ty, pos, after, none⟩ :: rest) fr rs := by
  refine G.actU (rs' := rs') (fun a w pos after hf hw => ?_) kk
  obtain ⟨l, p1, p2⟩ := hu.split
  obtain ⟨h1, h2, h3, h4⟩ := mapB_w (hw.perm p1)
  have hfd := nm_find hK k h2 w
  have hpush : (entB L bs).toArray.push ⟨eNm k, u, clk⟩ = (entB (L ++ [(k, u)]) (bs ++ [clk])).toArray := by rw [entB_snoc h2]; simp
  refine ⟨_, ?_, hw.upd hu fun l h => h.turnMap (by simp [h2]) (fun x hx => ?_) ?_⟩
  · simp only [execOp, Instr.mapUpdate, hf.ev hx, hf.ev hy, hf.ev hz, Sem.run_bind, run_underlying hU.und, Result.andThen_ok, getObj_run h1, Sem.run_pure, List.toList_toArray]
    rw [show Value.string (sOf k) = eNm k from rfl, nm_check hK]
    simp only [Result.andThen_ok, hfd, hj, hpush, setObj_run _ h1, Sem.run_pure]
  · rcases List.mem_append.1 hx with hx | hx
    · exact Nat.lt_succ_of_lt (h3 x hx)
    · rw [List.mem_singleton] at hx; omega
  · rw [List.nodup_append]
    exact ⟨h4, by simp, fun a ha c hc e => by rw [List.mem_singleton] at hc; have := h3 a ha; omega⟩
/-- an entry taken out -/
theorem G.mapDel {kt et b clk j : Nat} {v : Value} {L : NV} {bs : List Nat} {k : List UInt8} [hU : Und P t (.map kt et)] [hK : Und P kt .string] (hx : ev fr x = some (.map (some b))) (hy : ev fr y = some (.string (sOf k))) (hu : Upd rs (.own (MapB b L bs clk)) (.own (MapB b (L.eraseIdx j) (bs.eraseIdx j) clk)) rs')
    (hj : lookI k L 0 = some (j, v)) (kk : @G P ops Q n ds w0 rest fr rs') : @G P ops Q n ds w0 (⟨none, .call ⟨.builtin .delete, #[x, y], #[t, tx]⟩, ty, pos, after, none⟩ :: rest) fr rs := by
  refine G.actV (rs' := rs') (fun a w pos after hf hw => ?_) kk
  obtain ⟨l, p1, p2⟩ := hu.split
  obtain ⟨h1, h2, h3, h4⟩ := mapB_w (hw.perm p1)
  have hfd := nm_find hK k h2 w
  obtain ⟨_, hjs⟩ := lookI_some hj
  have hjl : j < L.length := by simpa using (List.getElem?_eq_some_iff.1 hjs).1
  have hdel : (entB L bs).toArray.eraseIdxIfInBounds j = (entB (L.eraseIdx j) (bs.eraseIdx j)).toArray := by
    rw [← entB_erase h2]; simp [Array.eraseIdxIfInBounds, entB_len h2, hjl]
  refine ⟨.tuple #[], { w with heap := w.heap.setIfInBounds b (.map (entB (L.eraseIdx j) (bs.eraseIdx j)).toArray clk) }, ?_, hw.upd hu fun l h => h.turnMap (by rw [List.length_eraseIdx, List.length_eraseIdx, h2]) (fun x hx => h3 x (List.mem_of_mem_eraseIdx hx)) (h4.sublist (List.eraseIdx_sublist ..))⟩
  simp only [execOp, resolve, invoke, builtin, Builtin.delete_, hf.ev hx, hf.ev hy, Sem.run_bind, Sem.run_pure, Result.andThen_ok, List.map_toArray, List.map_cons, List.map_nil]
  rw [show Value.string (sOf k) = eNm k from rfl]
  simp [run_underlying hU.und, getObj_run h1, nm_check hK, hfd, hj, hdel, setObj_run _ h1, entB_erase h2]
/-- an iterator over a map -/
def IterB (r m since : Nat) (seen : List Nat) (last : Nat) : Own2 where
  sat _ o := o r = some (.mapIter (some m) since seen.toArray last)
  mono := fun _ ho h => ho _ _ h
theorem G.rangeB {d kt et b clk : Nat} {L : NV} {bs : List Nat} [hU : Und P t (.map kt et)] (hx : ev fr x = some (.map (some b))) (hb : ∀ w, Holds w0 w rs → MapW w b L bs clk) (hd : Nat.blt d n = true) (k : ∀ r, @G P ops Q n ds w0 rest ((d, .pointer (some ⟨r, 0, none⟩)) :: fr) (.own (IterB r b clk [] clk) :: rs)) :
    @G P ops Q n ds w0 (⟨some d, .range t x, ty, pos, after, none⟩ :: rest) fr rs := by
  refine G.act hd fun a w pos after hf hw => ?_
  obtain ⟨h1, _⟩ := hb w hw
  refine ⟨.pointer (some ⟨w.heap.size, 0, none⟩), w.alloc (.mapIter (some b) clk #[] clk), ?_, _, ?_, k w.heap.size⟩
  · simp [execOp, Instr.range, hf.ev hx, run_underlying hU.und, getObj_run h1]
  · exact hw.add rfl rfl rfl (by simp) (fun k hk => Below.heap_alloc _ _ _ hk) (Hp.one w.heap.size (.mapIter (some b) clk #[] clk)) (Hp.one_le (heap_alloc_new w _)) (fun k hk => Hp.one_ne _ (by omega)) (fun f _ => Hp.one_self _ _)
theorem Holds.drew {w : World} (H : Holds w0 w rs) : Holds w0 w.drew rs := H.same rfl rfl rfl rfl
theorem Holds.turnIter {w : World} {r m since last last' : Nat} {seen seen' : List Nat} (H : Holds w0 w (.own (IterB r m since seen last) :: rs)) : Holds w0 (Go.ChangeMaps.setBlock w r (.mapIter (some m) since seen'.toArray last')) (.own (IterB r m since seen' last') :: rs) := by
  refine H.step rfl rfl rfl (by simp [Go.ChangeMaps.setBlock]) fun f o hr hf ho => ?_
  have hr' : o r = some (.mapIter (some m) since seen.toArray last) := hr
  have hb : w.heap[r]? = some (.mapIter (some m) since seen.toArray last) := ho _ _ hr'
  have hlt := (Array.getElem?_eq_some_iff.1 hb).1
  refine ⟨Hp.one r (.mapIter (some m) since seen'.toArray last'), Hp.one_self _ _, Hp.one_le ?_, fun i hi hno => ?_⟩
  · show (w.heap.setIfInBounds r _)[r]? = _
    simp [hlt]
  · have hib : i ≠ r := fun e => by rw [e, hr'] at hno; cases hno
    refine ⟨Hp.one_ne _ hib, ?_⟩
    show (w.heap.setIfInBounds r _)[i]? = w.heap[i]?
    rw [Array.getElem?_setIfInBounds_ne (Ne.symm hib)]
class IterAt (rs : List Res) (r : Nat) (m since : outParam Nat) (seen : outParam (List Nat)) (last : outParam Nat) (f : outParam (List Nat → List Res)) : Prop where
  upd : ∀ s, Upd rs (.own (IterB r m since seen last)) (.own (IterB r m since s last)) (f s)
instance IterAt.here {r m since last : Nat} {seen : List Nat} {rs : List Res} : IterAt (.own (IterB r m since seen last) :: rs) r m since seen last (fun s => .own (IterB r m since s last) :: rs) := ⟨fun _ => .here⟩
instance (priority := low) IterAt.there {r m since last : Nat} {seen : List Nat} {q : Res} {rs : List Res} {f : List Nat → List Res} [h : IterAt rs r m since seen last f] : IterAt (q :: rs) r m since seen last (fun s => q :: f s) := ⟨fun a => .there (h.upd a)⟩
/-- one step of a range over a map: all have come, or one that has not -/
theorem G.nextB {d r b clk : Nat} {seen : List Nat} {L : NV} {bs : List Nat} {f : List Nat → List Res} (hx : ev fr x = some (.pointer (some ⟨r, 0, none⟩))) [hI : IterAt rs r b clk seen clk f] (hb : ∀ w, Holds w0 w rs → MapW w b L bs clk) (hd : Nat.blt d n = true)
    (k0 : (∀ c ∈ bs, c ∈ seen) → @G P ops Q n ds w0 rest ((d, .tuple #[.bool false]) :: fr) rs)
    (k1 : ∀ (j : Nat) (h : j < L.length) (h' : j < bs.length), bs[j] ∉ seen → ∀ rs', rs' = f (seen ++ [bs[j]]) → @G P ops Q n ds w0 rest ((d, .tuple #[.bool true, .string (sOf L[j].1), L[j].2]) :: fr) rs') :
    @G P ops Q n ds w0 (⟨some d, .next x false, ty, pos, after, none⟩ :: rest) fr rs := by
  refine G.act hd fun a w pos after hf hw => ?_
  obtain ⟨h1, h2, h3, h4⟩ := hb w hw
  obtain ⟨l, p1, p2⟩ := (hI.upd seen).split
  have hr : w.heap[r]? = some (.mapIter (some b) clk seen.toArray clk) := (hw.perm p1).at (List.mem_cons_self ..)
  have hold : ∀ x ∈ (entB L bs).toArray.toList, x.born < clk := fun x hx => by
    obtain ⟨j, h, h', rfl⟩ := entB_mem h2 (by simpa using hx)
    exact h3 _ (List.getElem_mem h')
  rcases run_next_at (P := P) w ty r b clk clk seen.toArray (entB L bs).toArray clk hr h1 hold (Nat.le_refl _) with ⟨hs, he⟩ | ⟨e, he, w1, hw1, hrun⟩
  · refine ⟨_, w, ?_, rs, hw, k0 fun c hc => ?_⟩
    · simp only [execOp, hf.ev hx, Sem.run_bind, he]; rfl
    · by_cases hcs : c ∈ seen
      · exact hcs
      · exfalso
        obtain ⟨j, hj, rfl⟩ := List.getElem_of_mem hc
        have hjL : j < L.length := by omega
        have hg := entB_get h2 j hjL hj
        have hm : (⟨eNm L[j].1, L[j].2, bs[j]⟩ : MapEntry) ∈ leftOf (entB L bs).toArray seen.toArray := by
          unfold leftOf
          rw [Array.mem_filter]
          refine ⟨by simpa using List.mem_of_getElem? hg, ?_⟩
          simp [hcs]
        have := Array.eq_empty_of_size_eq_zero hs
        rw [this] at hm
        simp at hm
  · have hm : e ∈ entB L bs ∧ e.born ∉ seen := by
      unfold leftOf at he
      have := (Array.mem_filter.1 (Array.mem_toList_iff.1 he))
      simpa using this
    obtain ⟨j, h, h', rfl⟩ := entB_mem h2 hm.1
    refine ⟨.tuple #[.bool true, eNm L[j].1, L[j].2], Go.ChangeMaps.setBlock w1 r (.mapIter (some b) clk (seen ++ [bs[j]]).toArray clk), ?_, f (seen ++ [bs[j]]), ?_, k1 j h h' hm.2 _ rfl⟩
    · simp only [execOp, hf.ev hx, Sem.run_bind, hrun]; simp
    · have hw1' : Holds w0 w1 rs := by rcases hw1 with rfl | rfl; exact hw; exact hw.drew
      exact hw1'.upd (hI.upd (seen ++ [bs[j]])) fun l hl => hl.turnIter (seen' := seen ++ [bs[j]]) (last' := clk)
theorem iterB_blk {w : World} {r m since last : Nat} {seen : List Nat} {f : List Nat → List Res} [h : IterAt rs r m since seen last f] (H : Holds w0 w rs) : w.heap[r]? = some (.mapIter (some m) since seen.toArray last) := by
  obtain ⟨l, h1, _⟩ := (h.upd seen).split
  exact (H.perm h1).at (List.mem_cons_self ..)
theorem equal_pS {e size bytes : Nat} {zs : List Value} {a : Addr} (hU : Und P t (.pointer e)) (hI : Inf P e (size + 1) bytes zs) (w : World) : (Op.equal t (.pointer (some a)) (.pointer (some a))).run P w = .ok true w := by
  unfold Op.equal
  rw [show Op.maxDepth = 9999 + 1 from rfl]
  unfold Op.equalIn
  simp only [Sem.run_bind, run_underlying hU.und, Result.andThen_ok, sizeOf_run hI]
  simp [run_sameAddr_same]
theorem equal_pO {e size bytes : Nat} {zs : List Value} {a b : Addr} {ca cb : Array Value} {ta tb : TypeId} (hU : Und P t (.pointer e)) (hI : Inf P e (size + 1) bytes zs) (w : World) (hne : a ≠ b) (ha : w.heap[a.block]? = some (.cells ca ta (0, 0))) (hb : w.heap[b.block]? = some (.cells cb tb (0, 0))) : (Op.equal t (.pointer (some a)) (.pointer (some b))).run P w = .ok false w := by
  unfold Op.equal
  rw [show Op.maxDepth = 9999 + 1 from rfl]
  unfold Op.equalIn
  simp only [Sem.run_bind, run_underlying hU.und, Result.andThen_ok, sizeOf_run hI]
  simp [run_sameAddr_other w hne ha hb]
theorem Ex.eqPS {e size bytes : Nat} {zs : List Value} {a : Addr} [hU : Und P t (.pointer e)] [hI : Inf P e (size + 1) bytes zs] (hx : ev fr x = some (.pointer (some a))) (hy : ev fr y = some (.pointer (some a))) : Ex P n w0 rs fr (.binOp .eql t x y t') ty (.bool true) :=
  fun _ w _ _ _ _ hf _ => by
    have := equal_pS (a := a) hU hI w
    simp [execOp, hf.ev hx, hf.ev hy, binOp, eqGuard, this]
theorem Ex.eqPO {e size bytes b b' : Nat} {zs : List Value} {ca cb : Array Value} {ta tb : TypeId} [hU : Und P t (.pointer e)] [hI : Inf P e (size + 1) bytes zs] (hx : ev fr x = some (.pointer (some (badr b 0)))) (hy : ev fr y = some (.pointer (some (badr b' 0)))) (hne : b ≠ b') (ha : ∀ w, Holds w0 w rs → w.heap[b]? = some (.cells ca ta (0, 0))) (hb : ∀ w, Holds w0 w rs → w.heap[b']? = some (.cells cb tb (0, 0))) : Ex P n w0 rs fr (.binOp .eql t x y t') ty (.bool false) :=
  fun _ w _ _ _ _ hf hw => by
    have := equal_pO (a := badr b 0) (b := badr b' 0) hU hI w (fun h => hne (by injection h)) (ha w hw) (hb w hw)
    simp [execOp, hf.ev hx, hf.ev hy, binOp, eqGuard, this]
theorem copy_runP {e e' bytes : Nat} {zs : List Value} (hU : Und P t (.slice e)) (hI : Inf P e 1 bytes zs) (hV : Und P tx (.slice e')) (w : World) (b o k c : Nat) {bo : Option Addr} {m' c' : Nat} {news : List Value} (hs : Sl w bo m' c' 1 news) (hc : ∀ j, j < (news.take k).length → (w.cell? ⟨b, o + j, none⟩).isSome = true) (hf : ∀ j, j < (news.take k).length → w.frozen? ⟨b, o + j, none⟩ = false) :
    (Builtin.copy_ #[t, tx] ty #[.slice (some ⟨b, o, none⟩) k c, .slice bo m' c']).run P w = .ok (goInt ((Nat.min m' k : Nat) : Int)) (w.setCells b o (news.take k)) := by
  obtain ⟨ti, z0, g1, g2, g3, g4, g5⟩ := hI.get
  have hst := run_storeCells_cells (P := P) b o (news.take k) 0 w (by simpa using hc) (by simpa using hf) (fun u hu => hs.one u (List.mem_of_mem_take hu))
  simp only [Nat.add_zero] at hst
  have hlen := hs.len
  cases bo with
  | none =>
    have h0 := hs.nil rfl
    have h1 := hs.le
    obtain rfl : m' = 0 := by omega
    obtain rfl : news = [] := List.eq_nil_of_length_eq_zero (by simpa using hlen)
    have hz : Nat.min 0 k = 0 := Nat.zero_min k
    simp [Builtin.copy_, run_underlying hU.und, Builtin.lenOf, Builtin.firstCells, sizeOf, typeInfo, g1, storeCells, hz] at hst ⊢
    exact hst
  | some q =>
    have hfc := run_firstCells_some (P := P) w 1 (Nat.min m' k) q m' c' (news.take k) (by rw [List.length_take, hlen, Nat.mul_one, Nat.mul_one]; exact Nat.min_comm ..) (fun j v hv => hs.cell (k := j) (by
      have hj : j < k := by have := (List.getElem?_eq_some_iff.1 hv).1; rw [List.length_take] at this; omega
      rwa [List.getElem?_take_of_lt hj] at hv))
    simp [Builtin.copy_, run_underlying hU.und, Builtin.lenOf, sizeOf, typeInfo, g1, g4, hfc, hst]
/-- copy into the whole of a row of one's own, as much as it has room for -/
theorem G.copyPre {d e e' bytes m c m' c' : Nat} {zs xs news : List Value} {ao bo : Option Addr} {f : Option Addr → Nat → Nat → List Value → List Res} [hU : Und P t (.slice e)] [hI : Inf P e 1 bytes zs] [hV : Und P tx (.slice e')] [hS : VecSet rs ao m c e 1 xs f] [hR : SlAt rs bo m' c' 1 news]
    (hx : ev fr x = some (.slice ao m c)) (hy : ev fr y = some (.slice bo m' c')) (hd : Nat.blt d n = true)
    (k : ∀ rs', rs' = f ao m c (laid xs 0 (news.take m)) → @G P ops Q n ds w0 rest ((d, goInt ((Nat.min m' m : Nat) : Int)) :: fr) rs') :
    @G P ops Q n ds w0 (⟨some d, .call ⟨.builtin .copy, #[x, y], #[t, tx]⟩, ty, pos, after, none⟩ :: rest) fr rs := by
  refine G.act hd fun a w pos after hf hw => ?_
  have hsl := hR.get hw
  obtain ⟨l, p1, _⟩ := (hS.upd none 0 0 []).split
  have hw1 := hw.perm p1
  have hrow : rowIn (hp w) e 1 ao m c xs := hw1.at (List.mem_cons_self ..)
  obtain ⟨r1, r2, r3⟩ := hrow
  have hnl := hsl.len
  rcases r3 with ⟨h, h0, hc0⟩ | ⟨g, o, cur, rfl, hg, hn, hcm, hcs, htk⟩
  · subst h h0 hc0
    obtain rfl : xs = [] := List.eq_nil_of_length_eq_zero (by simpa using r1)
    obtain ⟨ti, z0, g1, g2, g3, g4, g5⟩ := hI.get
    have hfc : (Builtin.firstCells ti.size 0 (.slice bo m' c')).run P w = .ok #[] w := by
      cases bo with
      | none => rfl
      | some q => exact run_firstCells_some (P := P) w ti.size 0 q m' c' [] (by simp) (fun j v hv => by simp at hv)
    refine ⟨goInt ((Nat.min m' 0 : Nat) : Int), w, ?_, f none 0 0 (laid [] 0 (news.take 0)), ?_, k _ rfl⟩
    · have hz : Nat.min m' 0 = 0 := Nat.min_zero m'
      simp [execOp, hf.ev hx, hf.ev hy, resolve, invoke, builtin, Builtin.copy_, run_underlying hU.und, Builtin.lenOf, sizeOf, typeInfo, g1, hz, hfc]
    · obtain ⟨l', q1, q2⟩ := (hS.upd none 0 0 (laid [] 0 (news.take 0))).split
      have : l.Perm l' := (p1.symm.trans q1).cons_inv
      exact (hw1.perm (this.cons _)).perm q2.symm
  have hg' : w.heap[g]? = some (.cells cur e (0, 0)) := hg
  have hr := copy_runP (ty := ty) hU hI hV w g o m c hsl
    (fun q hq => by rw [cell_of_row w g _ cur e (0, 0) hg']; rw [List.length_take] at hq; simp; omega) (fun q hq => frozen_of_row w g _ cur e hg')
  have hH := hw1.setRow 0 (news.take m) (by rw [List.length_take]; omega) (fun u hu => hsl.one u (List.mem_of_mem_take hu))
  refine ⟨goInt ((Nat.min m' m : Nat) : Int), w.setCells g (o + 0) (news.take m), ?_, f (some ⟨g, o, none⟩) m c (laid xs 0 (news.take m)), ?_, k _ rfl⟩
  · simp [execOp, hf.ev hx, hf.ev hy, resolve, invoke, builtin, hr]
  · obtain ⟨l', q1, q2⟩ := (hS.upd (some ⟨g, o, none⟩) m c (laid xs 0 (news.take m))).split
    have : l.Perm l' := (p1.symm.trans q1).cons_inv
    exact (hH.perm (this.cons _)).perm q2.symm
theorem Ex.entryB {r b clk j : Nat} {seen : List Nat} {L : NV} {bs : List Nat} (hx : ev fr x = some (.pointer (some ⟨r, 0, none⟩))) (hb : ∀ w, Holds w0 w rs → MapW w b L bs clk) (h : j < L.length) (h' : j < bs.length) (hi : ∀ w, Holds w0 w rs → w.heap[r]? = some (.mapIter (some b) clk (seen ++ [bs[j]]).toArray clk)) :
    Ex P n w0 rs fr (.entry x) ty (.tuple #[.string (sOf L[j].1), L[j].2]) :=
  fun a w dst pos after guard hf hw => by
    obtain ⟨h1, h2, h3, h4⟩ := hb w hw
    have hm : (⟨eNm L[j].1, L[j].2, bs[j]⟩ : MapEntry) ∈ (entB L bs).toArray.toList := by simpa using List.mem_of_getElem? (entB_get h2 j h h')
    have hbn : ∀ {L : NV} {bs : List Nat}, bs.length = L.length → (entB L bs).map (·.born) = bs := by
      intro L
      induction L with
      | nil => intro bs e; cases bs with
        | nil => rfl
        | cons => exact nomatch e
      | cons a t ih => intro bs e; cases bs with
        | nil => exact nomatch e
        | cons c bs => exact congrArg (c :: ·) (ih (Nat.succ.inj e))
    have hr := hi w hw
    have hrun := run_entry_at (P := P) w r b clk seen.toArray (entB L bs).toArray clk ⟨eNm L[j].1, L[j].2, bs[j]⟩ (by simpa using hr) h1 hm (by rw [List.toList_toArray, hbn h2]; exact h4)
    simp only [execOp, hf.ev hx, Sem.run_bind, hrun]
    rfl
end
end Go.Proofs.YtmceappjldcbmaaGreatDoor
/-
  THE KIT OF MY OWN, NINETEENTH PART: slices of slices as arguments. Over any program; no condition.
-/
namespace Go.Proofs.YtmceappjldcbmaaGreatDoor
open Go.RowKit Go.ChangeShapes Go.WideShapes
set_option linter.unusedVariables false

def IsRows (k : IntKind) (w : World) (a : Option Addr) (len cap : Nat) (A : List (SlD Int)) : Prop :=
  A.length = len ∧ Sl w a len cap 1 (flat eS A) ∧ ∀ x ∈ A, IsRow k w x.ao x.n x.c x.l
def rowsB (A : List (SlD Int)) : List (SlD UInt8) := A.map fun x => ⟨x.ao, x.n, x.c, bytesOf (x.l.take x.n)⟩
def rowsI (A : List (SlD Int)) : List (SlD Int) := A.map fun x => ⟨x.ao, x.n, x.c, x.l.take x.n⟩
end Go.Proofs.YtmceappjldcbmaaGreatDoor
/-
  THE KIT OF MY OWN, TWENTY-EIGHTH PART: rows of structs (of numbers and of byte slices) as arguments. Over any program; no condition.
-/
namespace Go.Proofs.YtmceappjldcbmaaGreatDoor
open Go.RowKit Go.ChangeShapes Go.WideShapes
set_option linter.unusedVariables false
set_option linter.unusedSimpArgs false

/-- the cells of a datum: numbers of a kind; byte slices (none) -/
def CellsOk (w : World) : List (Option IntKind) → List Value → Prop
  | [], [] => True
  | some k :: s, v :: c => (∃ z, v = .int k z ∧ (Lit.int k z).wf = true) ∧ CellsOk w s c
  | none :: s, v :: c => (∃ ao n cp zs, v = .slice ao n cp ∧ IsRow .u8 w ao n cp zs) ∧ CellsOk w s c
  | _, _ => False
/-- of this type the cells are so -/
def Shape (P : Program) (t : TypeId) (s : List (Option IntKind)) : Prop :=
  P.cellsOf t = s.length ∧ ∀ (H : Type) (enc : TypeId × Value → H) (w : World) (base : Nat) (held : Bool) (fuel : Nat) (cs : List Value) (x : DataW H × List MemPlace), DataW.trod enc P w base (fun _ => true) held fuel t cs = some x → CellsOk w s cs
/-- fields, one behind the other -/
def Fields (P : Program) : Nat → List Field → List (List (Option IntKind)) → Prop
  | _, [], [] => True
  | off, f :: fs, s :: ss => f.offset = off ∧ Shape P f.type s ∧ Fields P (off + s.length) fs ss
  | _, _, _ => False
/-- a row of such data -/
def IsRecs (s : List (Option IntKind)) (w : World) (a : Option Addr) (len cap : Nat) (A : List (List Value)) : Prop :=
  A.length = len ∧ Sl w a len cap s.length A.flatten ∧ ∀ c ∈ A, CellsOk w s c
/-- a byte slice that was opened -/
def rowB (x : SlD UInt8) (w : World) : Prop := slIn (hp w) x.ao x.n x.c 1 (flat eB x.l)
end Go.Proofs.YtmceappjldcbmaaGreatDoor
/-
  THE KIT OF MY OWN, THIRTIETH PART: a list of slices of which each is one of two that can be read; a list's entry set. Over any program; no condition.
-/
namespace Go.Proofs.YtmceappjldcbmaaGreatDoor
open Go.RowKit Go.Sort
set_option linter.unusedVariables false
theorem getD_mapT {α β : Type} [Inhabited α] [Inhabited β] (f : α → β) (l : List α) (k : Nat) (h : k < l.length) : (l.map f).getD k default = f (l.getD k default) := by
  rw [List.getD_eq_getElem?_getD, List.getElem?_map, List.getD_eq_getElem?_getD, List.getElem?_eq_getElem h]; rfl
end Go.Proofs.YtmceappjldcbmaaGreatDoor
/-
  THE KIT OF MY OWN, THIRTY-EIGHTH PART: a place of an array of structs within a block; a block's cells retold; a variable of the program's own that is laid. Over any program; no condition.
-/
namespace Go.Proofs.YtmceappjldcbmaaGreatDoor
open Go.RowKit Go.Sort
set_option linter.unusedVariables false
set_option linter.unusedSimpArgs false
section
variable {P : Program} {n : Nat} {w0 : World} {rs : List Res} {fr : Slots} {t ty : TypeId} {x y : Operand}
theorem Ex.indexPS {m e bytes k b j s : Nat} {KK : IntKind} {zs : List Value} [hU : Und P t (.array m e)] [hI : Inf P e s bytes zs] (hx : ev fr x = some (.pointer (some (badr b j)))) (hy : ev fr y = some (.int KK (k : Int))) (hk : k < m) : Ex P n w0 rs fr (.indexAddr t x y) ty (.pointer (some (badr b (j + k * s)))) := by
  have := Ex.indexArr (P := P) (n := n) (w0 := w0) (rs := rs) (ty := ty) (t := t) hx hy hk
  rwa [eadr_badr] at this
end
theorem Holds.reblk {w0 w : World} {b : Nat} {t : TypeId} {cs cs' : List Value} {rs : List Res} (h : cs = cs') (H : Holds w0 w (.blk b t cs :: rs)) : Holds w0 w (.blk b t cs' :: rs) := h ▸ H
/-- cells that are read for ever -/
def Laid (g : Nat) (vs : List Value) : Pers where
  sat f := ∀ (i : Nat) (v : Value), vs[i]? = some v → ∃ (cur : Array Value) (t : TypeId) (z : Nat × Nat), f g = some (.cells cur t z) ∧ cur[i]? = some v
  mono := fun h hs i v hv => by
    obtain ⟨cur, t, z, e1, e2⟩ := hs i v hv
    exact ⟨cur, t, z, h _ _ e1, e2⟩
theorem Laid.at_ {w0 w : World} {rs : List Res} {g : Nat} {vs : List Value} (hm : .per (Laid g vs) ∈ rs) {i : Nat} {v : Value} (hv : vs[i]? = some v) (H : Holds w0 w rs) : w.cell? (badr g i) = some v := by
  have h : (Laid g vs).sat (hp w) := H.at hm
  obtain ⟨cur, t, z, e1, e2⟩ := h i v hv
  have e1' : w.heap[g]? = some (.cells cur t z) := e1
  unfold World.cell?
  simp [badr, e1', e2]
end Go.Proofs.YtmceappjldcbmaaGreatDoor
