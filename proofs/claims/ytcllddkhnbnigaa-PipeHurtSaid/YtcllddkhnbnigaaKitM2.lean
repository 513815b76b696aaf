/-
  THE KIT OF MY OWN, TWENTY-FIFTH PART: append of zeros (append(s, make([]T, m)...)) onto a row of the call's own. Over any program; no condition.
-/
import Derived.Test.YtcllddkhnbnigaaKitM1
import Derived.Lib.AppendZerosOnto
import Derived.Laws.BytesString
import Derived.Laws.CopyRow
import Derived.Lib.ConvBytes
import Derived.Test.YtcllddkhnbnigaaKit2
import Derived.Test.YtcllddkhnbnigaaKit8
import Derived.Deep.Matrix
namespace Go.Proofs.Ytcllddkhnbnigaa
open Go.RowKit Go.Sort
set_option linter.unusedVariables false
set_option linter.unusedSimpArgs false
section
variable {P : Program} {w0 : World} {rs : List Res}
theorem run_append_room_zeros {w : World} {t tn ty e : TypeId} {i : TypeInfo} {z : Value} {kq kn : IntKind} (ht : P.underlying t = some (.slice e)) (htn : P.underlying tn = some (.int kn)) (hi : P.info? e = some i) (hz : i.zero = some z) (b off sLen sCap m : Nat) (news : List Value)
    (hze : Builtin.zeroCells z.cells m = news.toArray) (h0 : 0 < m) (hsz : 0 < i.size) (h63 : (m : Int) ≤ 9223372036854775807) (h48 : m * i.bytes ≤ 281474976710656)
    (hroom : sLen + m ≤ sCap) (hone : ∀ u ∈ news, u.oneCell' = true) (hc : ∀ j, j < news.length → (w.cell? ⟨b, off + sLen * i.size + j, none⟩).isSome = true) (hf : ∀ j, j < news.length → w.frozen? ⟨b, off + sLen * i.size + j, none⟩ = false) :
    (Builtin.append_ #[t, tn] ty #[.slice (some ⟨b, off, none⟩) sLen sCap, .int kq m]).run P w = .ok (.slice (some ⟨b, off, none⟩) (sLen + m) sCap) (w.setCells b (off + sLen * i.size) news) := by
  have hst := run_storeCells_cells (P := P) b (off + sLen * i.size) news 0 w (by simpa using hc) (by simpa using hf) hone
  simp only [Nat.add_zero] at hst
  have hw : IntKind.i64.wrap (m : Int) = m := by rw [IntKind.wrap_i64]; omega
  have h48i : ¬ (281474976710656 < (m : Int) * (i.bytes : Int)) := by
    rw [← Int.natCast_mul]
    omega
  have hneg : ¬ ((m : Int) < 0) := by omega
  have hns : ¬ (m * i.size = 0) := Nat.mul_ne_zero (by omega) (by omega)
  simp [Builtin.append_, run_underlying ht, run_underlying htn, sizeOf, typeInfo, zeroValue, hi, hz, asInt, asIntOf, hw, hneg, hns, h48i, hroom, hze, Addr.add_lit, hst]
theorem Holds.appendZ {w : World} {t tx ty e size bytes : Nat} {zs : List Value} {ao : Option Addr} {n c m : Nat} {xs : List Value} {k kn : IntKind} (H : Holds w0 w (.vec e size ao n c xs :: rs)) (hU : Und P t (.slice e)) (hI : Inf P e size bytes zs) (hV : Und P tx (.int kn)) (hz : zs.length = size) (hsz : 0 < size) (h1 : ∀ u ∈ zs, u.oneCell' = true) (h0 : 0 < m)
    (hb : (n + m) * bytes ≤ 140737488355328) (hm : n + m ≤ maxLen) (hm2 : n + m ≤ 1000000000000) :
    ∃ ao' c' w', (Builtin.append_ #[t, tx] ty #[.slice ao n c, .int k (m : Int)]).run P w = .ok (.slice ao' (n + m) c') w' ∧ Holds w0 w' (.vec e size ao' (n + m) c' (xs ++ zrep zs m) :: rs) := by
  obtain ⟨i, z, g1, g2, g3, g4, g5⟩ := hI.get
  subst g4; subst g5
  have hrow : rowIn (hp w) e i.size ao n c xs := H.at (List.mem_cons_self ..)
  obtain ⟨r1, r2, r3⟩ := hrow
  have hnl : (zrep zs m).length = m * i.size := by rw [zrep_len, hz]
  have hno : ∀ u ∈ zrep zs m, u.oneCell' = true := zrep_one' h1 m
  have hlen : (xs ++ zrep zs m).length = (n + m) * i.size := by rw [List.length_append, r1, hnl, Nat.add_mul]
  have hone : ∀ u ∈ xs ++ zrep zs m, u.oneCell' = true := fun u hu => (List.mem_append.1 hu).elim (r2 u) (hno u)
  have hzs : z.cells.size = i.size := by rw [← hz, ← g3]; simp
  have hzc : z.cells = zs.toArray := by rw [← Array.toList_inj]; simpa using g3
  have hze : ∀ q, Builtin.zeroCells z.cells q = (zrep zs q).toArray := fun q => by
    have := zrep_eq zs (by omega) q
    rw [hzc]
    unfold Builtin.zeroCells
    simpa using this
  have hmb : m * i.bytes ≤ 281474976710656 := by
    have := Nat.mul_le_mul_right i.bytes (show m ≤ n + m by omega)
    omega
  have grow : c < n + m → (Builtin.firstCells i.size n (.slice ao n c)).run P w.drew = .ok xs.toArray w.drew →
      ∃ ao' c' w', (Builtin.append_ #[t, tx] ty #[.slice ao n c, .int k (m : Int)]).run P w = .ok (.slice ao' (n + m) c') w' ∧ Holds w0 w' (.vec e i.size ao' (n + m) c' (xs ++ zrep zs m) :: rs) := by
    intro hc hold
    have hr := Lib.run_append_grow_zeros (P := P) w t tx ty e i z k kn hU.und hV.und g1 g2 ao n c xs hold m h0 hsz hc (by omega) hmb (growslice_fits hc hb)
    have hge := grownCap_ge w (n + m) c e
    have hcm : grownCap w (n + m) c e ≤ maxLen := grownCap_le_maxLen w (n + m) c e hm
    refine ⟨_, _, _, hr, ?_⟩
    refine H.tail.add rfl rfl rfl (by simp) (fun k hk => Below.heap_alloc w.drew _ k hk) (Hp.one w.heap.size _) (Hp.one_le (heap_alloc_new w.drew _)) (fun k hk => Hp.one_ne _ (by omega)) (fun f _ => ?_)
    refine ⟨hlen, hone, .inr ⟨w.heap.size, 0, _, rfl, Hp.one_self _ _, hge, hcm, ?_, ?_⟩⟩
    · rw [hze, hze]
      simp only [Nat.zero_add, Array.size_append, List.size_toArray, zrep_len, hz, r1, ← Nat.add_mul]
      exact Nat.mul_le_mul_right _ (by omega)
    · rw [hze, hze]
      simp only [List.drop_zero, Array.toList_append]
      rw [← hlen]
      exact List.take_left
  rcases r3 with ⟨rfl, rfl, rfl⟩ | ⟨g, o, cur, rfl, hg, hn, hcm, hcs, htk⟩
  · have hxs : xs = [] := List.eq_nil_of_length_eq_zero (by simpa using r1)
    subst hxs
    exact grow (by omega) (run_firstCells_none w.drew i.size 0 0 0)
  · by_cases hroom : n + m ≤ c
    · have hg' : w.heap[g]? = some (.cells cur e (0, 0)) := hg
      have hsz2 : o + n * i.size + (zrep zs m).length ≤ cur.size := by
        rw [hnl]
        have := Nat.mul_le_mul_right i.size hroom
        rw [Nat.add_mul] at this; omega
      have hr := run_append_room_zeros (P := P) (w := w) (ty := ty) (kq := k) hU.und hV.und g1 g2 g o n c m (zrep zs m) (hze m) h0 hsz (by omega) hmb hroom hno (fun j hj => by rw [cell_of_row w g _ cur e (0, 0) hg']; simp; omega) (fun j hj => frozen_of_row w g _ cur e hg')
      refine ⟨_, _, _, hr, ?_⟩
      obtain ⟨s1, s2, s3, s4⟩ := setCells_rest (b := g) (zrep zs m) (o + n * i.size) w
      have hh := setCells_heap (b := g) (t := e) (zrep zs m) (o + n * i.size) w cur.toList (by simpa using hg') (by simpa using hsz2)
      refine H.step s1 s2 s3 (by omega) fun f ow hrow hf ho => ?_
      have howg : ∃ y, ow g = some y := by
        obtain ⟨_, _, hq⟩ := hrow
        rcases hq with ⟨hq, _⟩ | ⟨g', o', cur', hq, hq2, _⟩
        · cases hq
        · simp only [Option.some.injEq, Addr.mk.injEq] at hq
          obtain ⟨rfl, rfl, -⟩ := hq
          exact ⟨_, hq2⟩
      refine ⟨Hp.one g _, ⟨hlen, hone, .inr ⟨g, o, _, rfl, Hp.one_self _ _, hroom, hcm, ?_, ?_⟩⟩, Hp.one_le hh, fun k hk hkn => ?_⟩
      · simp only [List.size_toArray, List.length_append, List.length_take, List.length_drop, Array.length_toList]
        omega
      · simp only [List.append_assoc]
        rw [List.drop_append, List.length_take, Array.length_toList, Nat.min_eq_left (by omega), List.drop_take]
        rw [show o + n * i.size - o = n * i.size by omega, htk, show o - (o + n * i.size) = 0 by omega, List.drop_zero, ← List.append_assoc, ← hlen]
        exact List.take_left
      · obtain ⟨y, hy⟩ := howg
        have hkg : k ≠ g := fun e => by rw [e, hy] at hkn; cases hkn
        exact ⟨Hp.one_ne _ hkg, setCells_other _ _ _ _ hkg⟩
    · refine grow (by omega) ?_
      have hsl := rowIn.sl (w := w) (t := e) (size := i.size) (ao := some ⟨g, o, none⟩) (n := n) (c := c) (xs := xs) ⟨r1, r2, .inr ⟨g, o, cur, rfl, hg, hn, hcm, hcs, htk⟩⟩
      exact run_firstCells_some w.drew i.size n ⟨g, o, none⟩ n c xs r1 (fun j v hv => hsl.cell (k := j) hv)
end
section
variable {P : Program} {ops : Array Oper} {Q : Exit → Act → World → Prop} {n : Nat} {ds : List Deferred} {w0 : World} {rest : List Oper} {fr : Slots} {rs : List Res} {ty t tx : TypeId} {x y : Operand} {pos : String} {after : Array Edge}
theorem G.appMake {d e size bytes m l c : Nat} {zs xs : List Value} {ao : Option Addr} {k kn : IntKind} {f : Option Addr → Nat → Nat → List Value → List Res} [hU : Und P t (.slice e)] [hI : Inf P e size bytes zs] [hV : Und P tx (.int kn)] (hx : ev fr x = some (.slice ao l c)) (hy : ev fr y = some (.int k (m : Int))) (h0 : 0 < m)
    [hS : VecSet rs ao l c e size xs f] (hz : zs.length = size) (hs : Nat.blt 0 size = true) (h1 : zs.all (·.oneCell') = true) (hb : (l + m) * bytes ≤ 140737488355328 ∧ l + m ≤ 1000000000000) (hd : Nat.blt d n = true) {xs' : List Value} (hxs : xs ++ zrep zs m = xs')
    (k : ∀ ao' c'', ∀ rs', rs' = f ao' (l + m) c'' xs' → @G P ops Q n ds w0 rest ((d, .slice ao' (l + m) c'') :: fr) rs') :
    @G P ops Q n ds w0 (⟨some d, .call ⟨.builtin .append, #[x, y], #[t, tx]⟩, ty, pos, after, none⟩ :: rest) fr rs := by
  subst hxs
  refine G.act hd fun a w pos after hf hw => ?_
  obtain ⟨ls, p1, _⟩ := (hS.upd none 0 0 []).split
  have hs' : 0 < size := by simpa [Nat.blt_eq] using hs
  obtain ⟨ao', c'', w', h3, h4⟩ := (hw.perm p1).appendZ (P := P) (t := t) (tx := tx) (ty := ty) hU hI hV hz hs' (List.all_eq_true.1 h1) h0 hb.1 (by unfold maxLen; omega) hb.2
  refine ⟨_, w', append_run hf.toFrE hx hy h3, _, ?_, k ao' c'' _ rfl⟩
  obtain ⟨l', q1, q2⟩ := (hS.upd ao' (l + m) c'' (xs ++ zrep zs m)).split
  have : ls.Perm l' := (p1.symm.trans q1).cons_inv
  exact (h4.perm (this.cons _)).perm q2.symm
end
end Go.Proofs.Ytcllddkhnbnigaa
/-
  THE KIT OF MY OWN, EIGHTEENTH PART: strings as keys, bytes as a string, an entry laid into a map; many rows frozen. Over any program; no condition.
-/
namespace Go.Proofs.Ytcllddkhnbnigaa
open Go.RowKit Go.Sort
set_option linter.unusedVariables false
set_option linter.unusedSimpArgs false

/-- bytes as a string -/
def strOf (l : List UInt8) : ByteArray := (l.map fun x => (x.toNat : Int)).foldl (fun r n => r.push (UInt8.ofNat n.toNat)) ByteArray.empty
def eStr (s : ByteArray) : Value := .string s
section
variable {P : Program} {ops : Array Oper} {Q : Exit → Act → World → Prop} {K : Act → Prop} {n : Nat} {ds : List Deferred} {w0 : World} {rest : List Oper} {fr : Slots} {rs rs' : List Res} {ty t tx t' : TypeId} {x y z : Operand} {pos : String} {after : Array Edge}
variable {κ : Type} {ek : κ → Value}
end
end Go.Proofs.Ytcllddkhnbnigaa
/-
  THE KIT OF MY OWN, TWENTY-SECOND PART: a piece of a read slice, its place written out. Over any program; no condition.
-/
namespace Go.Proofs.Ytcllddkhnbnigaa
open Go.RowKit Go.Sort
set_option linter.unusedVariables false
set_option linter.unusedSimpArgs false

def subA (ao : Option Addr) (c l s : Nat) : Option Addr := if c = l then ao else ao.map (·.add (l * s))
section
variable {P : Program} {ops : Array Oper} {Q : Exit → Act → World → Prop} {K : Act → Prop} {n : Nat} {ds : List Deferred} {w0 : World} {rest : List Oper} {fr : Slots} {rs rs' : List Res} {ty t tx t' : TypeId} {x y z : Operand} {pos : String} {after : Array Edge}
theorem Ex.slHi {e size bytes m c r : Nat} {k : IntKind} {zs : List Value} {ao : Option Addr} [hU : Und P t (.slice e)] [hI : Inf P e size bytes zs] (hx : ev fr x = some (.slice ao m c)) (hz : ev fr z = some (.int k (r : Int))) (hr : r ≤ c) : Ex P n w0 rs fr (.slice t x none (some z) none) ty (.slice (subA ao c 0 size) (r - 0) (c - 0)) :=
  fun a w dst pos after guard hf hw => sub_run (P := P) (t := t) (ty := ty) (pos := pos) (after := after) hU hI (w := w) (dst := dst) (guard := guard) hf hx (.inl ⟨rfl, rfl⟩) (.inr ⟨z, k, rfl, hz⟩) (Nat.zero_le _) hr
end
end Go.Proofs.Ytcllddkhnbnigaa
/-
  THE KIT OF MY OWN, TWENTY-SIXTH PART: a piece of a row of one's own, read while the row stays whole. Over any program; no condition.
-/
namespace Go.Proofs.Ytcllddkhnbnigaa
open Go.RowKit Go.Sort
set_option linter.unusedVariables false
set_option linter.unusedSimpArgs false
section
variable {P : Program} {n : Nat} {w0 : World} {fr : Slots} {rs : List Res} {ty t : TypeId} {x y z : Operand} {pos : String} {after : Array Edge}
theorem Ex.slLH {e size bytes m c l r : Nat} {k k' : IntKind} {zs : List Value} {ao : Option Addr} [hU : Und P t (.slice e)] [hI : Inf P e size bytes zs] (hx : ev fr x = some (.slice ao m c)) (hy : ev fr y = some (.int k (l : Int))) (hz : ev fr z = some (.int k' (r : Int))) (hr : l ≤ r ∧ r ≤ c) : Ex P n w0 rs fr (.slice t x (some y) (some z) none) ty (.slice (subA ao c l size) (r - l) (c - l)) :=
  fun a w dst pos after guard hf hw => sub_run (P := P) (t := t) (ty := ty) (pos := pos) (after := after) hU hI (w := w) (dst := dst) (guard := guard) hf hx (.inr ⟨y, k, rfl, hy⟩) (.inr ⟨z, k', rfl, hz⟩) hr.1 hr.2
/-- a row of one's own read as one of its pieces -/
theorem RdR.piece {size : Nat} {ao : Option Addr} {n c : Nat} {xs : List Value} (l r : Nat) (hlr : l ≤ r) (hr : r ≤ n) : RdR (.vec t size ao n c xs) (subA ao c l size) (r - l) (c - l) size ((xs.drop (l * size)).take ((r - l) * size)) :=
  ⟨fun H hm => slIn.sl (slIn.piece (rowIn.frozen (H.at hm)) l r hlr hr)⟩
end
end Go.Proofs.Ytcllddkhnbnigaa
/-
  THE KIT OF MY OWN, TWENTY-SEVENTH PART: guarded operations of a region that draws its order; the least of three. Over any program; no condition.
-/
namespace Go.Proofs.Ytcllddkhnbnigaa
open Go.RowKit Go.Sort
set_option linter.unusedVariables false
set_option linter.unusedSimpArgs false
section
variable {P : Program} {n : Nat} {w0 : World} {fr : Slots} {rs : List Res} {ty t t' t'' : TypeId} {x y z : Operand}
theorem Ex.min3 {k : IntKind} {a b c : Int} (hx : ev fr x = some (.int k a)) (hy : ev fr y = some (.int k b)) (hz : ev fr z = some (.int k c)) : Ex P n w0 rs fr (.call ⟨.builtin .min, #[x, y, z], #[t, t', t'']⟩) ty (.int k (Min.min (Min.min a b) c)) :=
  fun _ w _ _ _ _ hf _ => by
    have h1 : (if b < a then b else a) = Min.min a b := by omega
    have h2 : (if c < Min.min a b then c else Min.min a b) = Min.min (Min.min a b) c := by omega
    simp [execOp, hf.ev hx, hf.ev hy, hf.ev hz, resolve, invoke, builtin, Builtin.min_, Builtin.min2, h1, h2]
end
section
variable {P : Program} {ops : Array Oper} {T : List Nat} {Q : Exit → Act → World → Prop} {n : Nat} {ds : List Deferred} {w0 : World} {fuel : Nat} {listed : Array Bool} {fr : Slots} {rs rc : List Res}
def bOf : Value → Option Bool
  | .bool b => some b
  | _ => none
theorem yielded_look {a : Act} (hf : FrE a n fr) {j dj : Nat} {v : Value} (hj : ((ops[j]?).bind (·.dst)) = some dj) (hb : look fr dj = some v) : yielded ops a.tmps j = bOf v := by
  unfold yielded bOf
  rw [hj]
  simp only [Option.bind_some, hf.has _ _ hb]
  cases v <;> rfl
/-- an operation with a guard that holds is as one that has none -/
theorem GA.takeY {i d : Nat} {op : Op} {ty : TypeId} {pos : String} {after : Array Edge} {v : Value} {j dj : Nat} {b : Bool} (rd : List Res) (hi : ops[i]? = some ⟨some d, op, ty, pos, after, some (j, b)⟩) (hj : ((ops[j]?).bind (·.dst)) = some dj) (hb : look fr dj = some (.bool b)) (hs : Region.noSelect ops = true) (hfr : Region.free .any ops listed i = true) (hr : (Region.ready .any ops listed).contains i = true)
    (hQ : NoPanic Q) (hD : rd = [] ∨ (rd = rc ∧ tails ops [i] T = true)) (hsub : ∃ left, Takes rs rd left) (hx : Ex P n w0 rd fr op ty v) (hd : Nat.blt d n = true)
    (k : @GA P ops T rc Q n ds w0 fuel (listed.setIfInBounds i true) ((d, v) :: fr) rs) : @GA P ops T rc Q n ds w0 (fuel + 1) listed fr rs := by
  intro a w hf hw
  have hsat : ∀ {l m : List Res} {w' : World}, Holds w0 w' (l ++ m) → Holds w0 w' l := fun {l m w'} h => by
    have h' : Holds w0 w' (m ++ l) := h.perm List.perm_append_comm
    clear h
    induction m with
    | nil => exact h'
    | cons x m ih => exact ih h'.tail
  obtain ⟨left, hl⟩ := hsub
  have hrd : Holds w0 w rd := hsat (hw.take hl)
  have hyw : Region.wanted (⟨some d, op, ty, pos, after, some (j, b)⟩ : Oper) (yielded ops a.tmps) = true := by
    simp [Region.wanted, yielded_look hf.toFrE hj hb, bOf]
  rcases hD with rfl | ⟨rfl, hT⟩
  · exact wpAnyC_first (D := fun w => Holds w0 w []) hi (.inl rfl) (Region.noSelect_spec hs) (fun c a' w' h => absurd h (hQ c _ _)) fuel listed a w (Region.free_spec hi hfr) (by simpa using hr) (.inl ⟨hyw, fun w' hw' => hx a w' _ _ _ _ hf hw'⟩) hrd (k _ w (hf.put hd v) hw)
  · refine wpAnyC_first (D := fun w => Holds w0 w rd) hi (.inr ⟨rfl, fun j hj => ?_⟩) (Region.noSelect_spec hs) (fun c a' w' h => absurd h (hQ c _ _)) fuel listed a w (Region.free_spec hi hfr) (by simpa using hr) (.inl ⟨hyw, fun w' hw' => hx a w' _ _ _ _ hf hw'⟩) hrd (k _ w (hf.put hd v) hw)
    have := List.all_eq_true.1 hT j hj
    simpa using this
/-- an operation with a guard that does not hold yields nothing -/
theorem GA.takeN {i d : Nat} {op : Op} {ty : TypeId} {pos : String} {after : Array Edge} {u : Value} {j dj : Nat} {b : Bool} (hi : ops[i]? = some ⟨some d, op, ty, pos, after, some (j, b)⟩) (hj : ((ops[j]?).bind (·.dst)) = some dj) (hb : look fr dj = some u) (hv : ∀ c, u = .bool c → c ≠ b) (hs : Region.noSelect ops = true) (hfr : Region.free .any ops listed i = true) (hr : (Region.ready .any ops listed).contains i = true)
    (hQ : NoPanic Q) (hd : Nat.blt d n = true)
    (k : @GA P ops T rc Q n ds w0 fuel (listed.setIfInBounds i true) ((d, undef) :: fr) rs) : @GA P ops T rc Q n ds w0 (fuel + 1) listed fr rs := by
  intro a w hf hw
  have hsat : ∀ {l : List Res} {w' : World}, Holds w0 w' l → Holds w0 w' [] := fun {l w'} h => by
    induction l with
    | nil => exact h
    | cons x m ih => exact ih h.tail
  have hyw : Region.wanted (⟨some d, op, ty, pos, after, some (j, b)⟩ : Oper) (yielded ops a.tmps) = false := by
    simp only [Region.wanted, yielded_look hf.toFrE hj hb]
    cases u <;> simp [bOf]
    exact hv _ rfl
  exact wpAnyC_first (D := fun w => Holds w0 w []) hi (.inl rfl) (Region.noSelect_spec hs) (fun c a' w' h => absurd h (hQ c _ _)) fuel listed a w (Region.free_spec hi hfr) (by simpa using hr) (.inr ⟨hyw, rfl⟩) (hsat hw) (k _ w (hf.put hd _) hw)
/-- no panic is asked for in what follows -/
def NP (Q : Exit → Act → World → Prop) : Exit → Act → World → Prop := fun e a w => (∀ c, e ≠ .panic c) ∧ Q e a w
theorem NoPanic.np : NoPanic (NP Q) := fun c _ _ h => h.1 c rfl
instance : NPI (NP Q) := ⟨NoPanic.np⟩
theorem GC.np {c : Code} (h : @GC P c (NP Q) n ds w0 fr rs) : @GC P c Q n ds w0 fr rs := fun a w hf hw => wp_mono (h a w hf hw) fun _ _ _ hq => hq.2
theorem GE.np (h : @GE Q .normal n ds w0 fr rs) : @GE (NP Q) .normal n ds w0 fr rs := fun a w hf hw => ⟨fun c h => (nomatch h), h a w hf hw⟩
theorem look_dec {d : Nat} {p : Prop} {_ : Decidable p} (hl : look fr d = some (.bool (decide p))) {b : Bool} (h : decide p = b) : look fr d = some (.bool b) := by rw [hl, h]
theorem ne_dec {p : Prop} {_ : Decidable p} {b : Bool} (h : decide p ≠ b) : ∀ c, Value.bool (decide p) = .bool c → c ≠ b := fun c e => by
  have := Value.bool.inj e
  rw [← this]; exact h
theorem ne_lit {a b : Bool} (h : a ≠ b) : ∀ c, Value.bool a = .bool c → c ≠ b := fun c e => by
  have := Value.bool.inj e
  rw [← this]; exact h
end
end Go.Proofs.Ytcllddkhnbnigaa
/-
  THE KIT OF MY OWN, TWENTY-FIRST PART: bits of bytes, and arrays as values. Over any program; no condition.
-/
namespace Go.Proofs.Ytcllddkhnbnigaa
open Go.RowKit Go.Sort
set_option linter.unusedVariables false
set_option linter.unusedSimpArgs false

section
variable {P : Program} {ops : Array Oper} {Q : Exit → Act → World → Prop} {K : Act → Prop} {n : Nat} {ds : List Deferred} {w0 : World} {rest : List Oper} {fr : Slots} {rs rs' : List Res} {ty t tx t' : TypeId} {x y z : Operand} {pos : String} {after : Array Edge}

theorem Ex.indexV {m e size bytes k : Nat} {KK : IntKind} {zs vs : List Value} {v : Value} [hU : Und P t (.array m e)] [hI : Inf P e size bytes zs] [hS : Sca P e] (hx : ev fr x = some (.agg vs.toArray)) (hy : ev fr y = some (.int KK (k : Int))) (hs : size = 1) (hv : vs[k]? = some v) (hk : k < m) : Ex P n w0 rs fr (.index t x y) ty v :=
  fun _ w _ _ _ _ hf hw => by
    subst hs
    have h2 : (0 : Int) ≤ (k : Int) := by omega
    have h3 : (k : Int) < (m : Int) := by omega
    have h4 : k < vs.length := (List.getElem?_eq_some_iff.1 hv).1
    have h5 := (List.getElem?_eq_some_iff.1 hv).2
    simp [execOp, hf.ev hx, hf.ev hy, Instr.index, asIntOf, run_underlying hU.und, Sem.run_bind, sizeOf_run hI, h2, h3, part, isAgg_run hS.sca, hv, h4, h5, hk]
theorem Ex.buildArr {m e size bytes es eb : Nat} {parts : List (Nat × Operand)} {vals : List (Nat × Value)} {zs ezs cells : List Value} [hU : Und P t (.array m e)] [hI : Inf P t size bytes zs] [hE : Inf P e es eb ezs] (hp : evp fr parts = some vals) (hc : fillL (fun i => some (i * es, es)) zs (cellsOf2 vals) = some cells) :
    Ex P n w0 rs fr (.build t parts.toArray) ty (.agg cells.toArray) :=
  fun a w dst pos after guard hf hw => by
    obtain ⟨i, z, g1, g2, g3, g4, g5⟩ := hI.get
    have hm := hf.evp hp
    rw [cellsOf2_eq] at hc
    have hfill := fill_eq (fun i => some (i * es, es)) vals zs cells hc
    rw [← g3] at hfill
    simp only [Array.toArray_toList] at hfill
    simp [execOp, Instr.build, zeroValue, typeInfo, g1, g2, run_underlying hU.und, sizeOf_run hE, hm, hfill]
theorem Ex.shlK {k : Nat} {KK : IntKind} (hx : ev fr x = some (.int .u8 1)) (hy : ev fr y = some (.int KK (k : Int))) (h : k < 4) : Ex P n w0 rs fr (.binOp .shl t x y t') ty (.int .u8 ((2 ^ k : Nat) : Int)) :=
  fun _ w _ _ _ _ hf _ => by
    match k, h with
    | 0, _ => simp [execOp, hf.ev hx, hf.ev hy, binOp, eqGuard, Op.shift, IntKind.bits]; rfl
    | 1, _ => simp [execOp, hf.ev hx, hf.ev hy, binOp, eqGuard, Op.shift, IntKind.bits]; rfl
    | 2, _ => simp [execOp, hf.ev hx, hf.ev hy, binOp, eqGuard, Op.shift, IntKind.bits]; rfl
    | 3, _ => simp [execOp, hf.ev hx, hf.ev hy, binOp, eqGuard, Op.shift, IntKind.bits]; rfl
theorem or_k : ∀ f : Fin 16, ∀ k : Fin 4, bits .or .u8 ((f.1 % 2 ^ k.1 : Nat) : Int) ((2 ^ k.1 : Nat) : Int) = ((f.1 % 2 ^ k.1 + 2 ^ k.1 : Nat) : Int) := by decide
theorem Ex.orK {f k : Nat} (hx : ev fr x = some (.int .u8 ((f % 2 ^ k : Nat) : Int))) (hy : ev fr y = some (.int .u8 ((2 ^ k : Nat) : Int))) (h : f < 16 ∧ k < 4) : Ex P n w0 rs fr (.binOp .or t x y t') ty (.int .u8 ((f % 2 ^ k + 2 ^ k : Nat) : Int)) := by
  have := Ex.or (P := P) (n := n) (w0 := w0) (rs := rs) (ty := ty) (t := t) (t' := t') hx hy
  rwa [or_k ⟨f, h.1⟩ ⟨k, h.2⟩] at this
theorem Ex.shrK {k : Nat} {b : UInt8} {KK : IntKind} (hx : ev fr x = some (.int .u8 (b.toNat : Int))) (hy : ev fr y = some (.int KK (k : Int))) (h : k < 4) : Ex P n w0 rs fr (.binOp .shr t x y t') ty (.int .u8 ((b.toNat / 2 ^ k : Nat) : Int)) :=
  fun _ w _ _ _ _ hf _ => by
    match k, h with
    | 0, _ => simp [execOp, hf.ev hx, hf.ev hy, binOp, eqGuard, Op.shift, IntKind.bits, fdiv_pos]
    | 1, _ => simp [execOp, hf.ev hx, hf.ev hy, binOp, eqGuard, Op.shift, IntKind.bits, fdiv_pos]
    | 2, _ => simp [execOp, hf.ev hx, hf.ev hy, binOp, eqGuard, Op.shift, IntKind.bits, fdiv_pos]
    | 3, _ => simp [execOp, hf.ev hx, hf.ev hy, binOp, eqGuard, Op.shift, IntKind.bits, fdiv_pos]
theorem Ex.andK {a : Nat} (hx : ev fr x = some (.int .u8 (a : Int))) (hy : ev fr y = some (.int .u8 1)) (h : a < 256) : Ex P n w0 rs fr (.binOp .and t x y t') ty (.int .u8 ((a % 2 : Nat) : Int)) := by
  have := Ex.and (P := P) (n := n) (w0 := w0) (rs := rs) (ty := ty) (t := t) (t' := t') hx hy
  rwa [show (1 : Int) = 2 ^ 1 - 1 from rfl, bits_mask .u8 8 (by decide) wraps_u8 1 (by decide) (a : Int) (by omega) (by omega), show (a : Int) % 2 ^ 1 = ((a % 2 : Nat) : Int) by omega] at this
theorem Ex.andS {b : UInt8} {k : Nat} (hx : ev fr x = some (.int .u8 ((b.toNat / 2 ^ k : Nat) : Int))) (hy : ev fr y = some (.int .u8 1)) : Ex P n w0 rs fr (.binOp .and t x y t') ty (.int .u8 ((b.toNat / 2 ^ k % 2 : Nat) : Int)) :=
  Ex.andK hx hy (Nat.lt_of_le_of_lt (Nat.div_le_self _ _) (UInt8.toNat_lt b))
theorem xor_b (a b : UInt8) : bits .xor .u8 (a.toNat : Int) (b.toNat : Int) = ((a ^^^ b).toNat : Int) := by
  have h1 := UInt8.toNat_lt a
  have h2 := UInt8.toNat_lt b
  have h3 := UInt8.toNat_lt (a ^^^ b)
  have e : (BitVec.ofInt 8 (a.toNat : Int) ^^^ BitVec.ofInt 8 (b.toNat : Int)).toNat = (a ^^^ b).toNat := by
    rw [BitVec.toNat_xor, UInt8.toNat_xor]
    simp only [BitVec.toNat_ofInt]
    congr 1 <;> omega
  show IntKind.u8.wrap ((BitVec.ofInt 8 (a.toNat : Int) ^^^ BitVec.ofInt 8 (b.toNat : Int)).toNat : Int) = _
  rw [e, wraps_u8 _ (by omega) (by omega)]
theorem Ex.xorB {a b : UInt8} (hx : ev fr x = some (.int .u8 (a.toNat : Int))) (hy : ev fr y = some (.int .u8 (b.toNat : Int))) : Ex P n w0 rs fr (.binOp .xor t x y t') ty (.int .u8 ((a ^^^ b).toNat : Int)) := by
  have := Ex.xor (P := P) (n := n) (w0 := w0) (rs := rs) (ty := ty) (t := t) (t' := t') hx hy
  rwa [xor_b] at this
end
end Go.Proofs.Ytcllddkhnbnigaa
/-
  THE KIT OF MY OWN, TWENTY-THIRD PART: strings as lists of bytes; variables and rows of a run and 256 flags. Over any program; no condition.
-/
namespace Go.Proofs.Ytcllddkhnbnigaa
open Go.RowKit Go.Sort
set_option linter.unusedVariables false
set_option linter.unusedSimpArgs false

def sOf (l : List UInt8) : ByteArray := ⟨l.toArray⟩
/-- a part's cells -/
def eP (f : Nat → Bool) : List Value := (List.range 257).map fun i => .bool (f i)
def upd (f : Nat → Bool) (j : Nat) (v : Bool) : Nat → Bool := fun i => if i = j then v else f i
def noP : Nat → Bool := fun _ => false
instance : Inhabited (Nat → Bool) := ⟨noP⟩
theorem eP_len (f : Nat → Bool) : (eP f).length = 257 := by simp [eP]
theorem eP_one (f : Nat → Bool) : ∀ u ∈ eP f, u.oneCell' = true := fun u hu => by
  obtain ⟨i, _, rfl⟩ := List.mem_map.1 hu; rfl
instance : Enc eP 257 := ⟨eP_len, eP_one⟩

section
variable {P : Program} {ops : Array Oper} {Q : Exit → Act → World → Prop} {K : Act → Prop} {n : Nat} {ds : List Deferred} {w0 : World} {rest : List Oper} {fr : Slots} {rs rs' : List Res} {ty t tx t' : TypeId} {x y z : Operand} {pos : String} {after : Array Edge}
end
end Go.Proofs.Ytcllddkhnbnigaa
/-
  THE KIT OF MY OWN, TWENTY-NINTH PART: the cells of a block told in another form. Over any program; no condition.
-/
namespace Go.Proofs.Ytcllddkhnbnigaa
open Go.RowKit Go.Sort
set_option linter.unusedVariables false
section
variable {P : Program} {ops : Array Oper} {Q : Exit → Act → World → Prop} {n : Nat} {ds : List Deferred} {w0 : World} {rest : List Oper} {fr : Slots} {rs : List Res} {b : Nat} {t : TypeId} {cs : List Value}
theorem G.reblk (cs' : List Value) (h : cs = cs') (k : @G P ops Q n ds w0 rest fr (.blk b t cs' :: rs)) : @G P ops Q n ds w0 rest fr (.blk b t cs :: rs) := h ▸ k
end
end Go.Proofs.Ytcllddkhnbnigaa
/-
  THE KIT OF MY OWN, THIRTY-FIRST PART: cells of a row of one's own overwritten in one go: append within the row, copy, clear; a row cut short. Over any program; no condition.
-/
namespace Go.Proofs.Ytcllddkhnbnigaa
open Go.RowKit Go.Sort
set_option linter.unusedVariables false
set_option linter.unusedSimpArgs false
/-- the cells from k on are others -/
def laid (xs : List Value) (k : Nat) (news : List Value) : List Value := xs.take k ++ news ++ xs.drop (k + news.length)
section
variable {P : Program} {ops : Array Oper} {Q : Exit → Act → World → Prop} {n : Nat} {ds : List Deferred} {w0 : World} {rest : List Oper} {fr : Slots} {rs rs' : List Res} {ty t tx : TypeId} {x y z z' : Operand} {pos : String} {after : Array Edge}
end
end Go.Proofs.Ytcllddkhnbnigaa
/-
  THE KIT OF MY OWN, THIRTY-SECOND PART: pointers compared; a string as bytes and bytes as a string; many resources as one in a contract; three ready operations of a drawn region. Over any program; no condition.
-/
namespace Go.Proofs.Ytcllddkhnbnigaa
open Go.RowKit Go.Sort
set_option linter.unusedVariables false
set_option linter.unusedSimpArgs false
section
variable {P : Program} {ops : Array Oper} {Q : Exit → Act → World → Prop} {n : Nat} {ds : List Deferred} {w0 : World} {rest : List Oper} {fr : Slots} {rs rs' : List Res} {ty t tx t' : TypeId} {x y z : Operand} {pos : String} {after : Array Edge}



theorem Holds.starOuts {w : World} : ∀ {l : List Res} {rs : List Res}, Holds w0 w (.own (Star l) :: rs) → Holds w0 w (l ++ rs)
  | [], rs, H => H.tail
  | r :: l, rs, H => by
    have h1 : Holds w0 w (.own (Star l) :: r :: rs) := H.starOut.perm (List.Perm.swap ..)
    exact (Holds.starOuts h1).perm List.perm_middle
theorem Holds.starIns {w : World} : ∀ {l : List Res} {rs : List Res}, Holds w0 w (l ++ rs) → Holds w0 w (.own (Star l) :: rs)
  | [], rs, H => Holds.starNil H
  | r :: l, rs, H => by
    have h1 : Holds w0 w (l ++ r :: rs) := H.perm List.perm_middle.symm
    have h2 : Holds w0 w (r :: .own (Star l) :: rs) := (Holds.starIns h1).perm (List.Perm.swap ..)
    exact h2.starIn
theorem GE.nilvec {x : Exit} (e : TypeId) (size : Nat) (k : @GE Q x n ds w0 fr (.vec e size none 0 0 [] :: rs)) : @GE Q x n ds w0 fr rs := fun a w hf hw => k a w hf (hw.nilvec e size)
theorem GC.nilsl {cd : Code} (size : Nat) (k : @GC P cd Q n ds w0 fr (.sl none 0 0 size [] :: rs)) : @GC P cd Q n ds w0 fr rs := fun a w hf hw => k a w hf ((hw.nilvec 0 size).frz (VecFrz.here))
theorem G.nilsl (size : Nat) (k : @G P ops Q n ds w0 rest fr (.sl none 0 0 size [] :: rs)) : @G P ops Q n ds w0 rest fr rs := fun a w hf hw => k a w hf ((hw.nilvec 0 size).frz (VecFrz.here))
theorem GE.nilsl {x : Exit} (size : Nat) (k : @GE Q x n ds w0 fr (.sl none 0 0 size [] :: rs)) : @GE Q x n ds w0 fr rs := fun a w hf hw => k a w hf ((hw.nilvec 0 size).frz (VecFrz.here))
/-- one of the resources that are one -/
theorem Spec.star {f : FuncId} {args : List Value} {l need : List Res} {i : Nat} {r : Res} {post post' : Value → List Res → Prop} (hi : l[i]? = some r) (S : Spec P f args (r :: need) post)
    (h : ∀ v give, post v give → ∃ r' give', give = r' :: give' ∧ post' v (.own (Star (l.set i r')) :: give')) : Spec P f args (.own (Star l) :: need) post' := by
  obtain ⟨hlt, he⟩ := List.getElem?_eq_some_iff.1 hi
  intro w0 rest w H
  have h1 := Holds.starAt hlt H
  rw [he] at h1
  have h2 : Holds w0 w ((r :: need) ++ (.own (Star (l.eraseIdx i)) :: rest)) := by
    refine h1.perm ?_
    simp only [List.cons_append]
    exact (List.perm_middle.symm).cons r
  refine (S w0 _ w h2).mono ?_
  rintro e w' ⟨v, give, hp, hev, hh⟩
  obtain ⟨r', give', rfl, hp'⟩ := h v give hp
  refine ⟨v, _, hp', hev, ?_⟩
  have h3 : Holds w0 w' (r' :: .own (Star (l.eraseIdx i)) :: (give' ++ rest)) := by
    refine hh.perm ?_
    simp only [List.cons_append]
    exact (List.perm_middle).cons r'
  exact Holds.starBack hlt h3
end
section
variable {P : Program} {ops : Array Oper} {T : List Nat} {rc : List Res} {Q : Exit → Act → World → Prop} {n : Nat} {ds : List Deferred} {w0 : World} {fuel : Nat} {listed : Array Bool} {fr : Slots} {rs : List Res}
end
end Go.Proofs.Ytcllddkhnbnigaa
/-
  CONTRACTS THAT KEEP THE WORLD BELOW THEIR START (the library's shelf) AS CONTRACTS OF THIS KIT.
-/
namespace Go.Proofs.Ytcllddkhnbnigaa
open Go.RowKit
theorem Holds.kept {w0 w w' : World} {rs : List Res} (H : Holds w0 w rs) (hB : Below w.heap.size w w') : Holds w0 w' rs := by
  obtain ⟨h1, h2, h3, h4, f, l, hl, hf, h0, hall, hpw⟩ := H
  have hle : (hp w).le (hp w') := fun k o hk => by
    have hlt : k < w.heap.size := by
      rcases Nat.lt_or_ge k w.heap.size with h | h
      · exact h
      · have : w.heap[k]? = some o := hk
        rw [Array.getElem?_eq_none h] at this
        cases this
    show w'.heap[k]? = some o
    rw [hB.block k hlt]
    exact hk
  exact ⟨hB.os.trans h1, hB.tape.trans h2, hB.output.trans h3, Nat.le_trans h4 hB.size, f, l, hl, hf.trans hle, h0, fun x hx => ⟨(hall x hx).1, (hall x hx).2.1.trans hle, (hall x hx).2.2⟩, hpw⟩
theorem Spec.kept {P : Program} {f : FuncId} {args : List Value} {need : List Res} {v : Value} (h : ∀ w0 rest w, Holds w0 w (need ++ rest) → Calls P f args.toArray w fun e w' => e = .returned v ∧ Below w.heap.size w w') :
    Spec P f args need fun v' give => v' = v ∧ give = need := fun w0 rest w H =>
  (h w0 rest w H).mono fun _ _ ⟨he, hB⟩ => ⟨v, need, ⟨rfl, rfl⟩, he, H.kept hB⟩
end Go.Proofs.Ytcllddkhnbnigaa
/-
  A CONTRACT THAT ONLY READS, LENT WHAT IS OWNED: whatever can be read may be read by it; what it makes is new.
-/
namespace Go.Proofs.Ytcllddkhnbnigaa
open Go.RowKit
/-- a resource that speaks of its own blocks alone -/
def OwnR (r : Res) : Prop := ∀ f f' o, r.sat f o → r.sat f' o
theorem OwnR.vec {t : TypeId} {size : Nat} {ao : Option Addr} {n c : Nat} {xs : List Value} : OwnR (.vec t size ao n c xs) := fun _ _ _ h => h
theorem Holds.both {w0 w w' : World} {rs give : List Res} (H1 : Holds w0 w rs) (H2 : Holds w w' give) (ho : ∀ r ∈ give, OwnR r) : Holds w0 w' (give ++ rs) := by
  obtain ⟨a1, a2, a3, a4, f, l, hl, hf, h0, hall, hpw⟩ := H1
  obtain ⟨b1, b2, b3, b4, g, m, hm, hg, g0, gall, gpw⟩ := H2
  have hfg : f.le g := hf.trans g0
  have hww : (hp w).le (hp w') := g0.trans hg
  refine ⟨b1.trans a1, b2.trans a2, b3.trans a3, Nat.le_trans a4 b4, f, m ++ l, by rw [List.map_append, hm, hl], hf.trans hww, h0, fun x hx => ?_, ?_⟩
  · rcases List.mem_append.1 hx with hx | hx
    · obtain ⟨c1, c2, c3⟩ := gall x hx
      exact ⟨ho x.1 (hm ▸ List.mem_map_of_mem hx) _ _ _ c1, c2, c3.left hfg⟩
    · obtain ⟨c1, c2, c3⟩ := hall x hx
      exact ⟨c1, c2.trans hww, c3⟩
  · refine List.pairwise_append.2 ⟨gpw, hpw, fun x hx y hy => ?_⟩
    exact ((gall x hx).2.2.left ((hall y hy).2.1.trans g0)).symm
theorem Holds.front {w0 w : World} {b : List Res} : ∀ {a : List Res}, Holds w0 w (a ++ b) → Holds w0 w a := by
  intro a H
  have h := H.perm (List.perm_append_comm)
  clear H
  induction b with
  | nil => exact h
  | cons r b ih => exact ih h.tail
theorem Spec.lend {P : Program} {f : FuncId} {args : List Value} {need need' : List Res} {post post' : Value → List Res → Prop} (S : Spec P f args need post) (hn : ∀ {w0 w : World} {rest : List Res}, Holds w0 w (need' ++ rest) → Holds w w need)
    (hp : ∀ v give, post v give → ∃ own rest, (∀ r ∈ own, OwnR r) ∧ give = own ++ rest ∧ post' v (own ++ need')) : Spec P f args need' post' := fun w0 rest w H => by
  refine (S w [] w (by rw [List.append_nil]; exact hn H)).mono ?_
  rintro e w' ⟨v, give, hv, he, hh⟩
  obtain ⟨own, r2, ho, rfl, h2⟩ := hp v give hv
  rw [List.append_nil] at hh
  exact ⟨v, own ++ need', h2, he, by rw [List.append_assoc]; exact H.both hh.front ho⟩
theorem Holds.sl0 {w : World} {ao : Option Addr} {n c size : Nat} {xs : List Value} (S : Sl w ao n c size xs) (hs : 0 < size) : Holds w w [.sl ao n c size xs] := by
  refine ⟨rfl, rfl, rfl, Nat.le_refl _, hp w, [(.sl ao n c size xs, fun _ => none)], rfl, .refl _, .refl _, fun x hx => ?_, List.pairwise_singleton _ _⟩
  rw [List.mem_singleton] at hx
  subst hx
  refine ⟨⟨S.len, S.one, S.le, S.cap, S.nil, fun h0 => ?_⟩, fun k o h => (nomatch h), fun k => .inr rfl⟩
  obtain ⟨b, o, hao, hb, hg⟩ := S.get h0
  have hx0 : 0 < xs.length := by rw [S.len]; exact Nat.mul_pos h0 hs
  have key : ∀ j u, xs[j]? = some u → ∃ cur t z, w.heap[b]? = some (.cells cur t z) ∧ cur[o + j]? = some u := fun j u hu => by
    have hc : (match w.heap[b]? with | some (.cells c _ _) => _ | _ => _) = some u := hg j u hu
    cases e : w.heap[b]? with
    | none => rw [e] at hc; cases hc
    | some x =>
      rw [e] at hc
      cases x with
      | cells cur t z => exact ⟨cur, t, z, rfl, by simpa using hc⟩
      | _ => cases hc
  obtain ⟨cur, t, z, e, _⟩ := key 0 xs[0] (List.getElem?_eq_getElem hx0)
  refine ⟨b, o, cur, t, z, hao, e, fun j u hu => ?_⟩
  obtain ⟨cur', t', z', e', h'⟩ := key j u hu
  rw [e] at e'
  injection e' with e'
  injection e' with e1 _ _
  rw [e1]; exact h'
theorem Spec.lendSl {P : Program} {f : FuncId} {args : List Value} {r : Res} {ao : Option Addr} {n c size : Nat} {xs : List Value} [hr : RdR r ao n c size xs] {post post' : Value → List Res → Prop} (hs : 0 < size) (S : Spec P f args [.sl ao n c size xs] post)
    (hp : ∀ v give, post v give → ∃ own rest, (∀ r ∈ own, OwnR r) ∧ give = own ++ rest ∧ post' v (own ++ [r])) : Spec P f args [r] post' :=
  Spec.lend S (fun H => Holds.sl0 (hr.rd H (List.mem_cons_self ..)) hs) hp
theorem Spec.turn {P : Program} {f : FuncId} {args : List Value} {need : List Res} {post post' : Value → List Res → Prop} (S : Spec P f args need post) (h : ∀ v g, post v g → ∃ g', post' v g' ∧ g.Perm g') : Spec P f args need post' := fun w0 rest w H =>
  (S w0 rest w H).mono fun _ _ ⟨v, g, hv, he, hh⟩ => by
    obtain ⟨g', h1, h2⟩ := h v g hv
    exact ⟨v, g', h1, he, hh.perm (h2.append_right rest)⟩
end Go.Proofs.Ytcllddkhnbnigaa
/-
  THE KIT OF MY OWN, NINETEENTH PART: slices of slices as arguments. Over any program; no condition.
-/
namespace Go.Proofs.Ytcllddkhnbnigaa
open Go.RowKit Go.ChangeShapes Go.WideShapes
set_option linter.unusedVariables false

def IsRows (k : IntKind) (w : World) (a : Option Addr) (len cap : Nat) (A : List (SlD Int)) : Prop :=
  A.length = len ∧ Sl w a len cap 1 (flat eS A) ∧ ∀ x ∈ A, IsRow k w x.ao x.n x.c x.l
def rowsB (A : List (SlD Int)) : List (SlD UInt8) := A.map fun x => ⟨x.ao, x.n, x.c, bytesOf (x.l.take x.n)⟩
def rowsI (A : List (SlD Int)) : List (SlD Int) := A.map fun x => ⟨x.ao, x.n, x.c, x.l.take x.n⟩
theorem Sl.inn {w : World} {a : Option Addr} {n c : Nat} {xs : List Value} (hs : Sl w a n c 1 xs) : slIn (hp w) a n c 1 xs := by
  refine ⟨hs.len, hs.one, hs.le, hs.cap, hs.nil, fun hn => ?_⟩
  obtain ⟨b, o, had, hb, hc⟩ := hs.get hn
  have hx := hc 0 (xs[0]'(by rw [hs.len]; omega)) (by rw [List.getElem?_eq_getElem])
  unfold World.cell? at hx
  cases hb' : w.heap[b]? with
  | none => rw [hb'] at hx; simp at hx
  | some ob =>
    rw [hb'] at hx
    cases ob with
    | cells cur t z =>
      refine ⟨b, o, cur, t, z, had, hb', fun j u hu => ?_⟩
      have := hc j u hu
      unfold World.cell? at this
      rw [hb'] at this
      simpa using this
    | _ => simp at hx
theorem Holds.seen {w : World} {rs : List Res} (H : Holds w w rs) (r : Res) (hr : ∀ f, (hp w).le f → r.sat f Hp.nil) : Holds w w (r :: rs) := by
  obtain ⟨h1, h2, h3, h4, f, l, hl, hf, h0, hall, hpw⟩ := H
  refine ⟨h1, h2, h3, h4, f, (r, Hp.nil) :: l, by simp [hl], hf, h0, ?_, List.pairwise_cons.2 ⟨fun y hy k => .inl rfl, hpw⟩⟩
  intro y hy
  rcases List.mem_cons.1 hy with rfl | hy
  · exact ⟨hr f h0, fun k o e => (by cases e), fun k => .inr rfl⟩
  · exact hall y hy
theorem flat_eI_take (k : IntKind) (zs : List Int) : flat (eI k) zs = zs.map (Value.int k) := by
  induction zs with
  | nil => rfl
  | cons x l ih => simp only [flat, List.flatMap_cons, List.map_cons] at ih ⊢; rw [ih]; rfl
theorem IsRow.slI {k : IntKind} {w : World} {a : Option Addr} {len cap : Nat} {zs : List Int} (h : IsRow k w a len cap zs) : slIn (hp w) a len cap 1 (flat (eI k) (zs.take len)) := by
  rw [flat_eI_take]; exact h.sl.1.inn
theorem IsRow.slB {w : World} {a : Option Addr} {len cap : Nat} {zs : List Int} (h : IsRow .u8 w a len cap zs) : slIn (hp w) a len cap 1 (flat eB (bytesOf (zs.take len))) := by
  rw [flat_bytesOf _ (fun z hz => bd_u8 (h.bound.2.2 z hz))]; exact h.slI
end Go.Proofs.Ytcllddkhnbnigaa
/-
  THE KIT OF MY OWN, TWENTY-EIGHTH PART: rows of structs (of numbers and of byte slices) as arguments. Over any program; no condition.
-/
namespace Go.Proofs.Ytcllddkhnbnigaa
open Go.RowKit Go.ChangeShapes Go.WideShapes
set_option linter.unusedVariables false
set_option linter.unusedSimpArgs false

/-- the cells of a datum: numbers of a kind; byte slices (none) -/
def CellsOk (w : World) : List (Option IntKind) → List Value → Prop
  | [], [] => True
  | some k :: s, v :: c => (∃ z, v = .int k z ∧ (Lit.int k z).wf = true) ∧ CellsOk w s c
  | none :: s, v :: c => (∃ ao n cp zs, v = .slice ao n cp ∧ IsRow .u8 w ao n cp zs) ∧ CellsOk w s c
  | _, _ => False
theorem CellsOk.len {w : World} : ∀ {s : List (Option IntKind)} {c : List Value}, CellsOk w s c → c.length = s.length
  | [], [], _ => rfl
  | some k :: s, v :: c, h => by rw [List.length_cons, List.length_cons, CellsOk.len h.2]
  | none :: s, v :: c, h => by rw [List.length_cons, List.length_cons, CellsOk.len h.2]
theorem CellsOk.one {w : World} : ∀ {s : List (Option IntKind)} {c : List Value}, CellsOk w s c → ∀ u ∈ c, u.oneCell' = true
  | [], [], _, u, hu => by simp at hu
  | some k :: s, v :: c, h, u, hu => by
    rcases List.mem_cons.1 hu with rfl | hu
    · obtain ⟨z, rfl, _⟩ := h.1; rfl
    · exact CellsOk.one h.2 u hu
  | none :: s, v :: c, h, u, hu => by
    rcases List.mem_cons.1 hu with rfl | hu
    · obtain ⟨ao, n, cp, zs, rfl, _⟩ := h.1; rfl
    · exact CellsOk.one h.2 u hu
theorem CellsOk.app {w : World} : ∀ {s s' : List (Option IntKind)} {c c' : List Value}, CellsOk w s c → CellsOk w s' c' → CellsOk w (s ++ s') (c ++ c')
  | [], s', [], c', _, h => h
  | some k :: s, s', v :: c, c', h, h' => ⟨h.1, CellsOk.app h.2 h'⟩
  | none :: s, s', v :: c, c', h, h' => ⟨h.1, CellsOk.app h.2 h'⟩
theorem CellsOk.int {w : World} {k : IntKind} {s : List (Option IntKind)} {c : List Value} (h : CellsOk w (some k :: s) c) : ∃ z c', c = .int k z :: c' ∧ (Lit.int k z).wf = true ∧ CellsOk w s c' := by
  cases c with
  | nil => exact h.elim
  | cons v c =>
    obtain ⟨⟨z, rfl, hz⟩, hr⟩ := h
    exact ⟨z, c, rfl, hz, hr⟩
theorem CellsOk.row {w : World} {s : List (Option IntKind)} {c : List Value} (h : CellsOk w (none :: s) c) : ∃ ao n cp zs c', c = .slice ao n cp :: c' ∧ IsRow .u8 w ao n cp zs ∧ CellsOk w s c' := by
  cases c with
  | nil => exact h.elim
  | cons v c =>
    obtain ⟨⟨ao, n, cp, zs, rfl, hz⟩, hr⟩ := h
    exact ⟨ao, n, cp, zs, c, rfl, hz, hr⟩
theorem CellsOk.nil {w : World} {c : List Value} (h : CellsOk w [] c) : c = [] := by
  cases c with
  | nil => rfl
  | cons v c => exact h.elim
/-- of this type the cells are so -/
def Shape (P : Program) (t : TypeId) (s : List (Option IntKind)) : Prop :=
  P.cellsOf t = s.length ∧ ∀ (H : Type) (enc : TypeId × Value → H) (w : World) (base : Nat) (held : Bool) (fuel : Nat) (cs : List Value) (x : DataW H × List MemPlace), DataW.trod enc P w base (fun _ => true) held fuel t cs = some x → CellsOk w s cs
theorem Shape.int {P : Program} {t : TypeId} {k : IntKind} (h : P.underlying t = some (.int k)) (hc : P.cellsOf t = 1) : Shape P t [some k] := by
  refine ⟨hc, fun H enc w base held fuel cs x hx => ?_⟩
  cases fuel with
  | zero => simp [DataW.trod] at hx
  | succ fuel =>
    unfold DataW.trod at hx
    rw [h] at hx
    match cs, hx with
    | [.int k' z], hx =>
      simp only at hx
      split at hx
      · rename_i hk
        obtain ⟨rfl, hw⟩ := hk
        exact ⟨⟨z, rfl, hw⟩, trivial⟩
      · exact nomatch hx
    | [], hx => simp at hx
    | [.bool _], hx => simp at hx
    | [.string _], hx => simp at hx
    | [.float ..], hx => simp at hx
    | [.pointer _], hx => simp at hx
    | [.slice ..], hx => simp at hx
    | [.agg _], hx => simp at hx
    | [.map _], hx => simp at hx
    | [.chan _], hx => simp at hx
    | [.func ..], hx => simp at hx
    | [.nilFunc], hx => simp at hx
    | [.nilIface], hx => simp at hx
    | [.iface ..], hx => simp at hx
    | [.tuple _], hx => simp at hx
    | [.complex ..], hx => simp at hx
    | _ :: _ :: _, hx => simp at hx
theorem Shape.bytes {P : Program} {t e : TypeId} (h : P.underlying t = some (.slice e)) (he : P.underlying e = some (.int .u8)) (hc : P.cellsOf t = 1) (hce : P.cellsOf e = 1) : Shape P t [none] := by
  refine ⟨hc, fun H enc w base held fuel cs x hx => ?_⟩
  rcases open_ints h he hce hx with ⟨rfl, _⟩ | ⟨a, l, c, zs, rfl, _, hl, hm, hz, _, hcell, hwz⟩
  · exact ⟨⟨none, 0, 0, [], rfl, .inl ⟨rfl, rfl, rfl, rfl⟩⟩, trivial⟩
  · exact ⟨⟨some a, l, c, zs, rfl, .inr ⟨_, rfl, hl, hm, by simpa using hz, hcell, hwz⟩⟩, trivial⟩
theorem mapM_some {α β : Type} {f : α → Option β} : ∀ {l : List α} {ys : List β}, l.mapM f = some ys → ∀ x ∈ l, ∃ y, f x = some y
  | [], _, _, x, hx => by simp at hx
  | a :: l, ys, h, x, hx => by
    rw [List.mapM_cons] at h
    cases ha : f a with
    | none => rw [ha] at h; simp at h
    | some b =>
      cases hl : l.mapM f with
      | none => rw [ha, hl] at h; simp at h
      | some bs =>
        rcases List.mem_cons.1 hx with rfl | hx
        · exact ⟨b, ha⟩
        · exact mapM_some hl x hx
/-- fields, one behind the other -/
def Fields (P : Program) : Nat → List Field → List (List (Option IntKind)) → Prop
  | _, [], [] => True
  | off, f :: fs, s :: ss => f.offset = off ∧ Shape P f.type s ∧ Fields P (off + s.length) fs ss
  | _, _, _ => False
theorem fields_ok {P : Program} {H : Type} {enc : TypeId × Value → H} {w : World} {base : Nat} {held : Bool} {fuel : Nat} {cs : List Value} : ∀ (fs : List Field) (ss : List (List (Option IntKind))) (off : Nat), Fields P off fs ss →
    (∀ f ∈ fs, ∃ y, DataW.trod enc P w base (fun _ => true) held fuel f.type ((cs.drop f.offset).take (P.cellsOf f.type)) = some y) → CellsOk w ss.flatten ((cs.drop off).take ss.flatten.length)
  | [], [], off, _, _ => by simp [CellsOk]
  | f :: fs, s :: ss, off, h, hy => by
    obtain ⟨ho, hs, hr⟩ := h
    obtain ⟨y, hy1⟩ := hy f (by simp)
    have h1 := hs.2 _ _ _ _ _ _ _ _ hy1
    rw [ho, hs.1] at h1
    have h2 := fields_ok fs ss (off + s.length) hr fun g hg => hy g (List.mem_cons_of_mem _ hg)
    have := h1.app h2
    rw [List.flatten_cons, List.length_append]
    rw [List.take_add, List.drop_drop]
    exact this
theorem Shape.struct {P : Program} {t : TypeId} {fs : Array Field} {ss : List (List (Option IntKind))} (h : P.underlying t = some (.struct fs)) (hc : P.cellsOf t = ss.flatten.length) (hf : Fields P 0 fs.toList ss) : Shape P t ss.flatten := by
  refine ⟨hc, fun H enc w base held fuel cs x hx => ?_⟩
  cases fuel with
  | zero => simp [DataW.trod] at hx
  | succ fuel =>
    unfold DataW.trod at hx
    rw [h] at hx
    simp only at hx
    split at hx
    · rename_i hl
      cases hm : fs.toList.mapM fun f => DataW.trod enc P w base (fun _ => true) held fuel f.type ((cs.drop f.offset).take (P.cellsOf f.type)) with
      | none => rw [hm] at hx; simp at hx
      | some xs =>
        have := fields_ok fs.toList ss 0 hf (mapM_some hm)
        rw [List.drop_zero, List.take_of_length_le (by omega)] at this
        exact this
    · exact nomatch hx
/-- a row of such data -/
def IsRecs (s : List (Option IntKind)) (w : World) (a : Option Addr) (len cap : Nat) (A : List (List Value)) : Prop :=
  A.length = len ∧ Sl w a len cap s.length A.flatten ∧ ∀ c ∈ A, CellsOk w s c
theorem flatten_at {α : Type} : ∀ (A : List (List α)) (m j : Nat) (u : α), (∀ c ∈ A, c.length = m) → A.flatten[j]? = some u → ∃ (i : Nat) (hi : i < A.length) (q : Nat), j = i * m + q ∧ A[i][q]? = some u
  | [], m, j, u, _, h => by simp at h
  | c :: A, m, j, u, hm, h => by
    rw [List.flatten_cons] at h
    have hc := hm c (by simp)
    by_cases hj : j < m
    · rw [List.getElem?_append_left (by omega)] at h
      exact ⟨0, by simp, j, by omega, h⟩
    · rw [List.getElem?_append_right (by omega), hc] at h
      obtain ⟨i, hi, q, e, hq⟩ := flatten_at A m (j - m) u (fun x hx => hm x (List.mem_cons_of_mem _ hx)) h
      refine ⟨i + 1, by simpa using hi, q, ?_, by simpa using hq⟩
      rw [Nat.succ_mul]; omega
theorem flatten_len {α : Type} : ∀ (A : List (List α)) (m : Nat), (∀ c ∈ A, c.length = m) → A.flatten.length = A.length * m
  | [], m, _ => by simp
  | c :: A, m, h => by
    rw [List.flatten_cons, List.length_append, flatten_len A m (fun x hx => h x (List.mem_cons_of_mem _ hx)), h c (by simp), List.length_cons, Nat.succ_mul]; omega
theorem IsRecs.opened {H : Type} {enc : TypeId × Value → H} {P : Program} {w : World} {base : Nat} {held : Bool} {t e : TypeId} {s : List (Option IntKind)} {fuel : Nat} {a : Option Addr} {len cap : Nat} {x : DataW H × List MemPlace} (ht : P.underlying t = some (.slice e)) (hs : Shape P e s) (hpos : 0 < s.length)
    (h : DataW.trod enc P w base (fun _ => true) held fuel t (Value.slice a len cap).cells.toList = some x) : ∃ A, IsRecs s w a len cap A := by
  rcases Go.Deep.open_slice ht h with ⟨hcs, _⟩ | ⟨y, l, c, m, n, D, Pl, hcs, _, hl, hm, hmm, _, hr⟩
  · simp [Value.cells] at hcs
    obtain ⟨rfl, rfl, rfl⟩ := hcs
    exact ⟨[], rfl, ⟨by simp, Nat.le_refl _, Nat.zero_le _, fun _ => rfl, fun h0 => (by omega), by simp⟩, by simp⟩
  · simp [Value.cells] at hcs
    obtain ⟨rfl, rfl, rfl⟩ := hcs
    simp only [if_true] at hmm
    subst hmm
    have each : ∀ i, i < m → ∃ cs' : List Value, w.cells? base (y.add (i * s.length)) s.length = some cs' ∧ CellsOk w s cs' := by
      intro i hi
      obtain ⟨cs', h1, h2⟩ := hr i hi
      rw [hs.1] at h1
      exact ⟨cs', h1, hs.2 _ _ _ _ _ _ _ _ h2⟩
    obtain ⟨F, hF⟩ := Go.Deep.choose_lt each
    have hlen : ∀ c ∈ (List.range len).map F, c.length = s.length := by
      intro c hc
      obtain ⟨i, hi, rfl⟩ := List.mem_map.1 hc
      have := List.mem_range.1 hi
      exact (hF i (by omega)).2.len
    have hcell : ∀ i, i < m → ∀ q u, (F i)[q]? = some u → w.cell? (y.add (i * s.length + q)) = some u := by
      intro i hi q u hu
      obtain ⟨_, hlen', hc'⟩ := World.cells?_some (hF i hi).1
      have hq : q < s.length := by
        have := (List.getElem?_eq_some_iff.1 hu).1
        rw [(hF i hi).2.len] at this
        exact this
      have := hc' q hq
      rw [Go.Deep.add_add] at this
      rw [this, hu]
    refine ⟨(List.range len).map F, by simp, ⟨by rw [flatten_len _ _ hlen]; simp, hl, hm, fun h => (by cases h), fun h0 => ?_, ?_⟩, fun c hc => ?_⟩
    · obtain ⟨b, off, spot⟩ := y
      obtain ⟨u, hu⟩ : ∃ u, (F 0)[0]? = some u := by
        have := (hF 0 (by omega)).2.len
        exact ⟨(F 0)[0]'(by omega), List.getElem?_eq_getElem _⟩
      have hc := hcell 0 (by omega) 0 u hu
      have hspot : spot = none := by simpa [Addr.add] using World.cell?_spot hc
      subst hspot
      refine ⟨b, off, rfl, World.block_lt_of_cell? w _ hc |> (by simpa [Addr.add] using ·), fun j u hu => ?_⟩
      obtain ⟨i, hi, q, rfl, hq⟩ := flatten_at _ _ _ _ hlen hu
      have hi' : i < len := by simpa using hi
      have hq' : (F i)[q]? = some u := by simpa using hq
      have := hcell i (by omega) q u hq'
      rw [show (⟨b, off + (i * s.length + q), none⟩ : Addr) = (⟨b, off, none⟩ : Addr).add (i * s.length + q) by
        unfold Addr.add
        split
        · rename_i h0; rw [h0]; rfl
        · rfl]
      exact this
    · intro u hu
      obtain ⟨c, hc, hu⟩ := List.mem_flatten.1 hu
      obtain ⟨i, hi, rfl⟩ := List.mem_map.1 hc
      exact (hF i (by have := List.mem_range.1 hi; omega)).2.one u hu
    · obtain ⟨i, hi, rfl⟩ := List.mem_map.1 hc
      exact (hF i (by have := List.mem_range.1 hi; omega)).2
theorem Sl.inn' {w : World} {a : Option Addr} {n c s : Nat} {xs : List Value} (hs : Sl w a n c s xs) (h0 : 0 < s) : slIn (hp w) a n c s xs := by
  refine ⟨hs.len, hs.one, hs.le, hs.cap, hs.nil, fun hn => ?_⟩
  obtain ⟨b, o, had, hb, hc⟩ := hs.get hn
  have hpos : 0 < n * s := Nat.mul_pos hn h0
  have hx := hc 0 (xs[0]'(by rw [hs.len]; exact hpos)) (by rw [List.getElem?_eq_getElem])
  unfold World.cell? at hx
  cases hb' : w.heap[b]? with
  | none => rw [hb'] at hx; simp at hx
  | some ob =>
    rw [hb'] at hx
    cases ob with
    | cells cur t z =>
      refine ⟨b, o, cur, t, z, had, hb', fun j u hu => ?_⟩
      have := hc j u hu
      unfold World.cell? at this
      rw [hb'] at this
      simpa using this
    | _ => simp at hx
theorem recs_list {β : Type} (e : β → List Value) (p : β → Prop) : ∀ A : List (List Value), (∀ c ∈ A, ∃ m, c = e m ∧ p m) → ∃ L : List β, A.flatten = flat e L ∧ L.length = A.length ∧ ∀ m ∈ L, p m
  | [], _ => ⟨[], rfl, rfl, fun _ h => nomatch h⟩
  | c :: A, h => by
    obtain ⟨m, rfl, hm⟩ := h c (by simp)
    obtain ⟨L, h1, h2, h3⟩ := recs_list e p A fun x hx => h x (List.mem_cons_of_mem _ hx)
    refine ⟨m :: L, by rw [List.flatten_cons, h1]; rfl, by rw [List.length_cons, List.length_cons, h2], fun x hx => ?_⟩
    rcases List.mem_cons.1 hx with rfl | hx
    · exact hm
    · exact h3 x hx
/-- a byte slice that was opened -/
def rowB (x : SlD UInt8) (w : World) : Prop := slIn (hp w) x.ao x.n x.c 1 (flat eB x.l)
theorem row_of {w : World} {ao : Option Addr} {n cp : Nat} {zs : List Int} (h : IsRow .u8 w ao n cp zs) : ∃ x : SlD UInt8, x.ao = ao ∧ x.n = n ∧ x.c = cp ∧ x.l.length = x.n ∧ x.n ≤ maxLen ∧ rowB x w :=
  ⟨⟨ao, n, cp, bytesOf (zs.take n)⟩, rfl, rfl, rfl, by rw [bytesOf_len]; exact h.bound.1, h.bound.2.1, h.slB⟩
theorem Holds.argRecs {β : Type} {w : World} {rs : List Res} (H : Holds w w rs) {a : Option Addr} {len cap : Nat} {s : List (Option IntKind)} {A : List (List Value)} (h : IsRecs s w a len cap A) (e : β → List Value) (d : β → SlD UInt8) (L : List β) (hpos : 0 < s.length) (hL : A.flatten = flat e L) (hd : ∀ m ∈ L, rowB (d m) w) :
    Holds w w (.sl a len cap s.length (flat e L) :: .per (Rd eB 1 (L.map d)) :: rs) := by
  refine (H.seen (.per (Rd eB 1 (L.map d))) fun f hf x hx => ?_).seen _ fun f hf => ?_
  · obtain ⟨y, hy, rfl⟩ := List.mem_map.1 hx
    exact slIn.mono hf (hd y hy)
  · show slIn f a len cap s.length (flat e L)
    rw [← hL]
    exact slIn.mono hf (h.2.1.inn' hpos)
end Go.Proofs.Ytcllddkhnbnigaa
