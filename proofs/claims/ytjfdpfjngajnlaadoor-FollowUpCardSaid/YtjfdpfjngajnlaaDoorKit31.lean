/-
  THE KIT OF MY OWN, THIRTY-FIRST PART: cells of a row of one's own overwritten in one go: append within the row, copy, clear; a row cut short. Over any program; no condition.
-/
import Derived.Test.YtjfdpfjngajnlaaDoorKit26
import Derived.Laws.CopyRow
namespace Go.Proofs.YtjfdpfjngajnlaaDoor
open Go.RowKit Go.Sort
set_option linter.unusedVariables false
set_option linter.unusedSimpArgs false
/-- the cells from k on are others -/
def laid (xs : List Value) (k : Nat) (news : List Value) : List Value := xs.take k ++ news ++ xs.drop (k + news.length)
theorem laid_len (xs : List Value) (k : Nat) (news : List Value) (h : k + news.length ≤ xs.length) : (laid xs k news).length = xs.length := by
  unfold laid; simp only [List.length_append, List.length_take, List.length_drop]; omega
theorem Holds.setRow {w0 w : World} {rs : List Res} {e size n c g o : Nat} {xs : List Value} (H : Holds w0 w (.vec e size (some ⟨g, o, none⟩) n c xs :: rs)) (k : Nat) (news : List Value) (hk : k + news.length ≤ n * size) (h1 : ∀ u ∈ news, u.oneCell' = true) :
    Holds w0 (w.setCells g (o + k) news) (.vec e size (some ⟨g, o, none⟩) n c (laid xs k news) :: rs) := by
  obtain ⟨r1, r2, r3⟩ : rowIn (hp w) e size (some ⟨g, o, none⟩) n c xs := H.at (List.mem_cons_self ..)
  rcases r3 with ⟨h, _⟩ | ⟨g', o', cur, hao, hg, hn, hcm, hcs, htk⟩
  · cases h
  simp only [Option.some.injEq, Addr.mk.injEq] at hao
  obtain ⟨rfl, rfl, -⟩ := hao
  have hg' : w.heap[g]? = some (.cells cur e (0, 0)) := hg
  have hms := Nat.mul_le_mul_right size hn
  obtain ⟨s1, s2, s3, s4⟩ := setCells_rest (b := g) news (o + k) w
  have hh := setCells_heap (b := g) (t := e) news (o + k) w cur.toList (by simpa using hg') (by simp; omega)
  refine H.step s1 s2 s3 (by omega) fun f ow hrow hf ho => ?_
  have howg : ∃ y, ow g = some y := by
    obtain ⟨_, _, hq⟩ := hrow
    rcases hq with ⟨hq, _⟩ | ⟨g', o', cur', hq, hq2, _⟩
    · cases hq
    · simp only [Option.some.injEq, Addr.mk.injEq] at hq
      obtain ⟨rfl, rfl, -⟩ := hq
      exact ⟨_, hq2⟩
  refine ⟨Hp.one g _, ⟨by rw [laid_len _ _ _ (by omega)]; exact r1, fun u hu => ?_, .inr ⟨g, o, _, rfl, Hp.one_self _ _, hn, hcm, ?_, ?_⟩⟩, Hp.one_le hh, fun q hq hqn => ?_⟩
  · unfold laid at hu
    rcases List.mem_append.1 hu with hu | hu
    · rcases List.mem_append.1 hu with hu | hu
      · exact r2 u (List.mem_of_mem_take hu)
      · exact h1 u hu
    · exact r2 u (List.mem_of_mem_drop hu)
  · simp only [List.size_toArray, List.length_append, List.length_take, List.length_drop, Array.length_toList]
    omega
  · -- the row's cells, read anew
    have hx : ∀ i, i < n * size → cur.toList[o + i]? = xs[i]? := by
      intro i hi
      rw [← htk, List.getElem?_take, if_pos hi, List.getElem?_drop]
    apply List.ext_getElem?
    intro i
    simp only
    by_cases hi : i < n * size
    · rw [List.getElem?_take, if_pos hi, List.getElem?_drop]
      unfold laid
      have hcl : cur.toList.length = cur.size := Array.length_toList
      by_cases i1 : i < k
      · rw [List.getElem?_append_left (by simp only [List.length_append, List.length_take]; omega), List.getElem?_append_left (by simp only [List.length_take]; omega), List.getElem?_take, if_pos (by omega), hx i hi,
          List.getElem?_append_left (by simp only [List.length_append, List.length_take]; omega), List.getElem?_append_left (by simp only [List.length_take]; omega), List.getElem?_take, if_pos i1]
      · by_cases i2 : i < k + news.length
        · rw [List.getElem?_append_left (by simp only [List.length_append, List.length_take]; omega), List.getElem?_append_right (by simp only [List.length_take]; omega),
            List.getElem?_append_left (by simp only [List.length_append, List.length_take]; omega), List.getElem?_append_right (by simp only [List.length_take]; omega)]
          simp only [List.length_take]
          congr 1
          omega
        · rw [List.getElem?_append_right (by simp only [List.length_append, List.length_take]; omega), List.getElem?_append_right (by simp only [List.length_append, List.length_take]; omega), List.getElem?_drop, List.getElem?_drop]
          simp only [List.length_append, List.length_take]
          rw [show o + k + news.length + (o + i - (min (o + k) cur.toList.length + news.length)) = o + i by omega, show k + news.length + (i - (min k xs.length + news.length)) = i by omega]
          exact hx i hi
    · rw [List.getElem?_eq_none (by simp only [List.length_take]; omega), List.getElem?_eq_none (by rw [laid_len _ _ _ (by omega)]; omega)]
  · obtain ⟨y, hy⟩ := howg
    have hkg : q ≠ g := fun e => by rw [e, hy] at hqn; cases hqn
    exact ⟨Hp.one_ne _ hkg, setCells_other _ _ _ _ hkg⟩
/-- a row cut short -/
theorem Holds.cutRow {w0 w : World} {rs : List Res} {e size n c : Nat} {ao : Option Addr} {xs : List Value} (m : Nat) (hm : m ≤ n) (H : Holds w0 w (.vec e size ao n c xs :: rs)) : Holds w0 w (.vec e size ao m c (xs.take (m * size)) :: rs) := by
  refine H.step rfl rfl rfl (Nat.le_refl _) fun f ow hrow hf ho => ⟨ow, ?_, ho, fun k hk hn => ⟨hn, rfl⟩⟩
  obtain ⟨r1, r2, r3⟩ := hrow
  have hms := Nat.mul_le_mul_right size hm
  refine ⟨by rw [List.length_take]; omega, fun u hu => r2 u (List.mem_of_mem_take hu), ?_⟩
  rcases r3 with ⟨h1, h2, h3⟩ | ⟨g, o, cur, h1, h2, h3, h4, h5, h6⟩
  · exact .inl ⟨h1, by omega, h3⟩
  · refine .inr ⟨g, o, cur, h1, h2, by omega, h4, h5, ?_⟩
    rw [← h6, List.take_take, Nat.min_eq_left hms]
/-- an address in a row that is not empty -/
theorem rowIn.addr {h : Hp} {t size n c : Nat} {ao : Option Addr} {xs : List Value} (H : rowIn h t size ao n c xs) (hn : 0 < c) : ∃ g o cur, ao = some ⟨g, o, none⟩ ∧ h g = some (.cells cur t (0, 0)) ∧ o + c * size ≤ cur.size := by
  obtain ⟨_, _, r3⟩ := H
  rcases r3 with ⟨_, _, h⟩ | ⟨g, o, cur, h1, h2, h3, h4, h5, h6⟩
  · omega
  · exact ⟨g, o, cur, h1, h2, h5⟩
section
variable {P : Program} {ops : Array Oper} {Q : Exit → Act → World → Prop} {n : Nat} {ds : List Deferred} {w0 : World} {rest : List Oper} {fr : Slots} {rs rs' : List Res} {ty t tx : TypeId} {x y z z' : Operand} {pos : String} {after : Array Edge}
/-- s[i:j:k], only its bounds looked at -/
theorem Ex.sl3 {e size bytes m c l r k : Nat} {k1 k2 k3 : IntKind} {zs : List Value} {ao : Option Addr} {z3 : Operand} [hU : Und P t (.slice e)] [hI : Inf P e size bytes zs] (hx : ev fr x = some (.slice ao m c)) (hy : ev fr y = some (.int k1 (l : Int))) (hz : ev fr z = some (.int k2 (r : Int))) (hz3 : ev fr z3 = some (.int k3 (k : Int))) (hr : l ≤ r ∧ r ≤ k ∧ k ≤ c) :
    Ex P n w0 rs fr (.slice t x (some y) (some z) (some z3)) ty (.slice (if k = l then ao else ao.map (·.add (l * size))) (r - l) (k - l)) :=
  fun a w dst pos after guard hf hw => by
    have h1 : (0 : Int) ≤ (l : Int) := by omega
    have h2 : (0 : Int) ≤ (r : Int) := by omega
    have h5 : (0 : Int) ≤ (k : Int) := by omega
    have h3 : (l : Int) ≤ (r : Int) := by omega
    have h4 : (r : Int) ≤ (k : Int) := by omega
    have h6 : (k : Int) ≤ (c : Int) := by omega
    obtain ⟨q1, q2, q3⟩ := hr
    have hs := sizeOf_run hI w
    simp [execOp, Instr.sliceAt, Instr.slice, Instr.sliceBounds, Instr.sliceBound, hf.ev hx, run_underlying hU.und, hs, hf.ev hy, hf.ev hz, hf.ev hz3, asIntOf, h1, h2, h3, h4, h5, h6, q1, q2, q3]
/-- append within a row: what stands behind j comes behind i -/
theorem G.appIn {d e e' size bytes i j m c : Nat} {zs xs : List Value} {ao : Option Addr} {f : Option Addr → Nat → Nat → List Value → List Res} [hU : Und P t (.slice e)] [hI : Inf P e size bytes zs] [hV : Und P tx (.slice e')] [hS : VecSet rs ao m c e size xs f] (hij : i ≤ j ∧ j ≤ m ∧ 0 < m)
    (hx : ev fr x = some (.slice ao i c)) (hy : ev fr y = some (.slice (subA ao c j size) (m - j) (c - j))) (hd : Nat.blt d n = true)
    (k : ∀ rs', rs' = f ao m c (laid xs (i * size) (xs.drop (j * size))) → @G P ops Q n ds w0 rest ((d, .slice ao (i + (m - j)) c) :: fr) rs') :
    @G P ops Q n ds w0 (⟨some d, .call ⟨.builtin .append, #[x, y], #[t, tx]⟩, ty, pos, after, none⟩ :: rest) fr rs := by
  obtain ⟨hij1, hij2, hm0⟩ := hij
  refine G.act hd fun a w pos after hf hw => ?_
  obtain ⟨l, p1, _⟩ := (hS.upd none 0 0 []).split
  have hw1 := hw.perm p1
  have hrow : rowIn (hp w) e size ao m c xs := hw1.at (List.mem_cons_self ..)
  have hrow' := hrow
  obtain ⟨r1, r2, r3⟩ := hrow'
  rcases r3 with ⟨h, h0, _⟩ | ⟨g, o, cur, rfl, hg, hn, hcm, hcs, htk⟩
  · omega
  have hg' : w.heap[g]? = some (.cells cur e (0, 0)) := hg
  have hsl : Sl w (subA (some ⟨g, o, none⟩) c j size) (m - j) (c - j) size ((xs.drop (j * size)).take ((m - j) * size)) := slIn.sl (slIn.piece (rowIn.frozen hrow) j m hij2 (Nat.le_refl _))
  have hdr : (xs.drop (j * size)).take ((m - j) * size) = xs.drop (j * size) := by
    rw [List.take_of_length_le]
    rw [List.length_drop, r1, Nat.sub_mul]; omega
  rw [hdr] at hsl
  obtain ⟨ti, z0, g1, g2, g3, g4, g5⟩ := hI.get
  have hm1 := Nat.mul_le_mul_right size hn
  have hm2 := Nat.mul_le_mul_right size hij1
  have hm3 := Nat.mul_le_mul_right size hij2
  have hnl : (xs.drop (j * size)).length = m * size - j * size := by rw [List.length_drop, r1]
  have hsrc := hsl.src hV
  rw [← g4] at hsrc
  have hr := run_append_room_src (P := P) w t tx ty e ti hU.und g1 g o i c (.slice (subA (some ⟨g, o, none⟩) c j ti.size) (m - j) (c - j)) (m - j) (xs.drop (j * size)) (by rw [g4] at hsrc ⊢; exact hsrc) (by omega)
    (fun q hq => by rw [cell_of_row w g _ cur e (0, 0) hg', g4]; simp; rw [hnl] at hq; omega) (fun q hq => frozen_of_row w g _ cur e hg')
  rw [g4] at hr
  have hH := hw1.setRow (i * size) (xs.drop (j * size)) (by rw [hnl]; omega) (fun u hu => r2 u (List.mem_of_mem_drop hu))
  refine ⟨_, _, append_run hf.toFrE hx hy hr, _, ?_, k _ rfl⟩
  obtain ⟨l', q1, q2⟩ := (hS.upd (some ⟨g, o, none⟩) m c (laid xs (i * size) (xs.drop (j * size)))).split
  have : l.Perm l' := (p1.symm.trans q1).cons_inv
  exact (hH.perm (this.cons _)).perm q2.symm
theorem zrepLen (zs : List Value) : ∀ k, (zrep zs k).length = k * zs.length
  | 0 => by simp [zrep]
  | k + 1 => by simp only [zrep, List.length_append, zrepLen zs k, Nat.succ_mul]; omega
theorem zrepMem {zs : List Value} {p : Value → Prop} (h : ∀ u ∈ zs, p u) : ∀ k, ∀ u ∈ zrep zs k, p u
  | 0, u, hu => by simp [zrep] at hu
  | k + 1, u, hu => by
    rcases List.mem_append.1 (show u ∈ zs ++ zrep zs k from hu) with hu | hu
    · exact h u hu
    · exact zrepMem h k u hu
theorem clear_run {e size bytes : Nat} {zs : List Value} (hU : Und P t (.slice e)) (hI : Inf P e size bytes zs) (w : World) (b o k c : Nat) (hk : 0 < k) (hc : ∀ j, j < (zrep zs k).length → (w.cell? ⟨b, o + j, none⟩).isSome = true) (hf : ∀ j, j < (zrep zs k).length → w.frozen? ⟨b, o + j, none⟩ = false) (h1 : ∀ u ∈ zs, u.oneCell' = true) (hpos : 0 < zs.length) :
    (Builtin.clear_ #[t] ty #[.slice (some ⟨b, o, none⟩) k c]).run P w = .ok (.tuple #[]) (w.setCells b o (zrep zs k)) := by
  obtain ⟨ti, z0, g1, g2, g3, g4, g5⟩ := hI.get
  have hzc : (Builtin.zeroCells z0.cells k).toList = zrep zs k := by
    unfold Builtin.zeroCells
    have := zrep_eq zs hpos k
    rw [show z0.cells = zs.toArray by rw [← g3]]
    simp only [List.size_toArray] at this ⊢
    rw [this]
  have hst := run_storeCells_cells (P := P) b o (zrep zs k) 0 w (by simpa using hc) (by simpa using hf) (zrepMem h1 k)
  simp only [Nat.add_zero] at hst
  obtain ⟨m, rfl⟩ : ∃ m, k = m + 1 := ⟨k - 1, by omega⟩
  simp [Builtin.clear_, run_underlying hU.und, zeroValue, typeInfo, g1, g2, hzc, hst]
/-- a value that nobody takes -/
theorem G.actV {op : Op} (h : ∀ a w pos after, Fr ds a n fr → Holds w0 w rs → ∃ v w', (execOp a.eval ⟨none, op, ty, pos, after, none⟩).run P w = .ok (.value v) w' ∧ Holds w0 w' rs') (k : @G P ops Q n ds w0 rest fr rs') :
    @G P ops Q n ds w0 (⟨none, op, ty, pos, after, none⟩ :: rest) fr rs := by
  intro a w hf hw
  refine wpList_plain rfl fun K hK => ?_
  unfold Oper.wp
  obtain ⟨v, w', h1, h2⟩ := h a w pos after hf hw
  rw [h1]
  exact hK _ _ (k _ w' (hf.put_none _) h2)
theorem sub_some {g o c i size : Nat} (h : i < c) : subA (some ⟨g, o, none⟩) c i size = some ⟨g, o + i * size, none⟩ := by
  unfold subA
  rw [if_neg (by omega)]
  simp [Addr.add_lit]
/-- clear of the end of a row -/
theorem G.clearIn {e size bytes i m c : Nat} {zs xs : List Value} {ao : Option Addr} {f : Option Addr → Nat → Nat → List Value → List Res} [hU : Und P t (.slice e)] [hI : Inf P e size bytes zs] [hS : VecSet rs ao m c e size xs f] (hi : i < m)
    (hx : ev fr x = some (.slice (subA ao c i size) (m - i) (c - i)))
    (k : ∀ rs', rs' = f ao m c (laid xs (i * size) (zrep zs (m - i))) → @G P ops Q n ds w0 rest fr rs') (h1 : zs.all (fun u => u.oneCell') = true) (hsz : zs.length = size) (hpos : 0 < size) :
    @G P ops Q n ds w0 (⟨none, .call ⟨.builtin .clear, #[x], #[t]⟩, ty, pos, after, none⟩ :: rest) fr rs := by
  refine G.actV (rs' := f ao m c (laid xs (i * size) (zrep zs (m - i)))) (fun a w pos after hf hw => ?_) (k _ rfl)
  obtain ⟨l, p1, _⟩ := (hS.upd none 0 0 []).split
  have hw1 := hw.perm p1
  have hrow : rowIn (hp w) e size ao m c xs := hw1.at (List.mem_cons_self ..)
  obtain ⟨r1, r2, r3⟩ := hrow
  rcases r3 with ⟨h, h0, _⟩ | ⟨g, o, cur, rfl, hg, hn, hcm, hcs, htk⟩
  · omega
  have hg' : w.heap[g]? = some (.cells cur e (0, 0)) := hg
  have hm1 := Nat.mul_le_mul_right size hn
  have hzl : (zrep zs (m - i)).length = m * size - i * size := by rw [zrepLen, hsz, Nat.sub_mul]
  have hmi := Nat.mul_le_mul_right size (Nat.le_of_lt hi)
  rw [sub_some (by omega)] at hx
  have h1' : ∀ u ∈ zs, u.oneCell' = true := fun u hu => List.all_eq_true.1 h1 u hu
  have hr := clear_run (ty := ty) hU hI w g (o + i * size) (m - i) (c - i) (by omega)
    (fun q hq => by rw [cell_of_row w g _ cur e (0, 0) hg']; simp; omega) (fun q hq => frozen_of_row w g _ cur e hg') h1' (by omega)
  have hH := hw1.setRow (i * size) (zrep zs (m - i)) (by omega) (zrepMem h1' _)
  refine ⟨.tuple #[], w.setCells g (o + i * size) (zrep zs (m - i)), ?_, ?_⟩
  · simp [execOp, hf.ev hx, resolve, invoke, builtin, hr]
  · obtain ⟨l', q1, q2⟩ := (hS.upd (some ⟨g, o, none⟩) m c (laid xs (i * size) (zrep zs (m - i)))).split
    have : l.Perm l' := (p1.symm.trans q1).cons_inv
    exact (hH.perm (this.cons _)).perm q2.symm
theorem copy_run {e e' bytes : Nat} {zs : List Value} (hU : Und P t (.slice e)) (hI : Inf P e 1 bytes zs) (hV : Und P tx (.slice e')) (w : World) (b o k c : Nat) {bo : Option Addr} {m' c' : Nat} {news : List Value} (hs : Sl w bo m' c' 1 news) (hk : m' ≤ k) (hc : ∀ j, j < news.length → (w.cell? ⟨b, o + j, none⟩).isSome = true) (hf : ∀ j, j < news.length → w.frozen? ⟨b, o + j, none⟩ = false) :
    (Builtin.copy_ #[t, tx] ty #[.slice (some ⟨b, o, none⟩) k c, .slice bo m' c']).run P w = .ok (goInt m') (w.setCells b o news) := by
  obtain ⟨ti, z0, g1, g2, g3, g4, g5⟩ := hI.get
  have hst := run_storeCells_cells (P := P) b o news 0 w (by simpa using hc) (by simpa using hf) hs.one
  simp only [Nat.add_zero] at hst
  have hmin : Nat.min m' k = m' := Nat.min_eq_left hk
  have hlen := hs.len
  cases bo with
  | none =>
    have h0 := hs.nil rfl
    have h1 := hs.le
    obtain rfl : m' = 0 := by omega
    obtain rfl : news = [] := List.eq_nil_of_length_eq_zero (by simpa using hlen)
    simp [Builtin.copy_, run_underlying hU.und, Builtin.lenOf, Builtin.firstCells, sizeOf, typeInfo, g1, storeCells] at hst ⊢
    rfl
  | some q =>
    have hfc := run_firstCells_some (P := P) w 1 m' q m' c' news (by simpa using hlen) (fun j v hv => hs.cell (k := j) hv)
    simp [Builtin.copy_, run_underlying hU.und, Builtin.lenOf, sizeOf, typeInfo, g1, g4, hmin, hfc, hst]
/-- copy into a row of one's own, from a place on -/
theorem G.copyIn {d e e' bytes i m c m' c' : Nat} {zs xs news : List Value} {ao bo : Option Addr} {f : Option Addr → Nat → Nat → List Value → List Res} [hU : Und P t (.slice e)] [hI : Inf P e 1 bytes zs] [hV : Und P tx (.slice e')] [hS : VecSet rs ao m c e 1 xs f] [hR : SlAt rs bo m' c' 1 news] (hi : i + m' ≤ m)
    (hx : ev fr x = some (.slice (subA ao c i 1) (m - i) (c - i))) (hy : ev fr y = some (.slice bo m' c')) (hd : Nat.blt d n = true)
    (k : ∀ rs', rs' = f ao m c (laid xs i news) → @G P ops Q n ds w0 rest ((d, goInt m') :: fr) rs') :
    @G P ops Q n ds w0 (⟨some d, .call ⟨.builtin .copy, #[x, y], #[t, tx]⟩, ty, pos, after, none⟩ :: rest) fr rs := by
  refine G.act hd fun a w pos after hf hw => ?_
  have hsl := hR.get hw
  obtain ⟨l, p1, _⟩ := (hS.upd none 0 0 []).split
  have hw1 := hw.perm p1
  have hrow : rowIn (hp w) e 1 ao m c xs := hw1.at (List.mem_cons_self ..)
  obtain ⟨r1, r2, r3⟩ := hrow
  have hnl := hsl.len
  rcases r3 with ⟨h, h0, hc0⟩ | ⟨g, o, cur, rfl, hg, hn, hcm, hcs, htk⟩
  · -- the row is nil
    subst h h0 hc0
    obtain rfl : i = 0 := by omega
    obtain rfl : m' = 0 := by omega
    obtain rfl : news = [] := List.eq_nil_of_length_eq_zero (by simpa using hnl)
    obtain rfl : xs = [] := List.eq_nil_of_length_eq_zero (by simpa using r1)
    obtain ⟨ti, z0, g1, g2, g3, g4, g5⟩ := hI.get
    have hx' : ev fr x = some (.slice none 0 0) := by rw [hx]; rfl
    have hfc : (Builtin.firstCells ti.size 0 (.slice bo 0 c')).run P w = .ok #[] w := by
      cases bo with
      | none => rfl
      | some q => exact run_firstCells_some (P := P) w ti.size 0 q 0 c' [] (by simp) (fun j v hv => by simp at hv)
    refine ⟨goInt 0, w, ?_, f none 0 0 (laid [] 0 []), ?_, k _ rfl⟩
    · simp [execOp, hf.ev hx', hf.ev hy, resolve, invoke, builtin, Builtin.copy_, run_underlying hU.und, Builtin.lenOf, sizeOf, typeInfo, g1, hfc]
    · obtain ⟨l', q1, q2⟩ := (hS.upd none 0 0 (laid [] 0 [])).split
      have : l.Perm l' := (p1.symm.trans q1).cons_inv
      exact (hw1.perm (this.cons _)).perm q2.symm
  have hg' : w.heap[g]? = some (.cells cur e (0, 0)) := hg
  by_cases hic : i < c
  · rw [sub_some hic, Nat.mul_one] at hx
    have hr := copy_run (ty := ty) hU hI hV w g (o + i) (m - i) (c - i) hsl (by omega)
      (fun q hq => by rw [cell_of_row w g _ cur e (0, 0) hg']; simp; omega) (fun q hq => frozen_of_row w g _ cur e hg')
    have hH := hw1.setRow i news (by omega) hsl.one
    refine ⟨goInt m', w.setCells g (o + i) news, ?_, f (some ⟨g, o, none⟩) m c (laid xs i news), ?_, k _ rfl⟩
    · simp [execOp, hf.ev hx, hf.ev hy, resolve, invoke, builtin, hr]
    · obtain ⟨l', q1, q2⟩ := (hS.upd (some ⟨g, o, none⟩) m c (laid xs i news)).split
      have : l.Perm l' := (p1.symm.trans q1).cons_inv
      exact (hH.perm (this.cons _)).perm q2.symm
  · -- nothing is left of the row, nothing is copied
    obtain rfl : i = c := by omega
    obtain rfl : m = i := by omega
    obtain rfl : m' = 0 := by omega
    obtain rfl : news = [] := List.eq_nil_of_length_eq_zero (by simpa using hnl)
    have hx' : ev fr x = some (.slice (some ⟨g, o, none⟩) 0 0) := by
      rw [hx]; unfold subA; rw [if_pos rfl, Nat.sub_self]
    have hr := copy_run (ty := ty) hU hI hV w g o 0 0 hsl (Nat.le_refl _) (fun q hq => by simp at hq) (fun q hq => by simp at hq)
    have hlaid : laid xs m [] = xs := by unfold laid; simp
    refine ⟨goInt 0, w, ?_, f (some ⟨g, o, none⟩) m m (laid xs m []), ?_, k _ rfl⟩
    · simp [execOp, hf.ev hx', hf.ev hy, resolve, invoke, builtin, hr]
      rfl
    · rw [hlaid]
      obtain ⟨l', q1, q2⟩ := (hS.upd (some ⟨g, o, none⟩) m m xs).split
      have : l.Perm l' := (p1.symm.trans q1).cons_inv
      exact (hw1.perm (this.cons _)).perm q2.symm
end
end Go.Proofs.YtjfdpfjngajnlaaDoor
