/-
  THE KIT OF MY OWN, EIGHTH PART: what is owned may be frozen; pieces of frozen slices; make; how a walk of a law begins. Over any program; no condition.
-/
import Derived.Test.YtmceappjldcbmaaGreatDoorKit7
namespace Go.Proofs.YtmceappjldcbmaaGreatDoor
open Go.RowKit Go.Sort
set_option linter.unusedVariables false
set_option linter.unusedSimpArgs false

theorem rowIn.frozen {h : Hp} {t : TypeId} {size : Nat} {ao : Option Addr} {n c : Nat} {xs : List Value} (H : rowIn h t size ao n c xs) : slIn h ao n c size xs := by
  obtain ⟨h1, h2, h3⟩ := H
  rcases h3 with ⟨rfl, rfl, rfl⟩ | ⟨g, o, cur, rfl, hg, hn, hm, hs, ht⟩
  · exact ⟨h1, h2, Nat.le_refl _, Nat.zero_le _, fun _ => rfl, fun h0 => (by omega)⟩
  · refine ⟨h1, h2, hn, hm, fun h => (by cases h), fun _ => ⟨g, o, cur, t, (0, 0), rfl, hg, fun j u hu => ?_⟩⟩
    rw [← ht, List.getElem?_take] at hu
    split at hu
    · simpa [List.getElem?_drop] using hu
    · cases hu
class VecFrz (rs : List Res) (ao : Option Addr) (n c : outParam Nat) (rs' : outParam (List Res)) : Prop where
  upd : ∃ e size xs, Upd rs (.vec e size ao n c xs) (.sl ao n c size xs) rs'
instance VecFrz.here {ao : Option Addr} {n c e size : Nat} {xs : List Value} {rs : List Res} : VecFrz (.vec e size ao n c xs :: rs) ao n c (.sl ao n c size xs :: rs) := ⟨⟨e, size, xs, .here⟩⟩
instance (priority := low) VecFrz.there {ao : Option Addr} {n c : Nat} {r : Res} {rs rs' : List Res} [h : VecFrz rs ao n c rs'] : VecFrz (r :: rs) ao n c (r :: rs') := ⟨h.upd.elim fun e ⟨s, x, k⟩ => ⟨e, s, x, .there k⟩⟩

section
variable {P : Program} {ops : Array Oper} {Q : Exit → Act → World → Prop} {K : Act → Prop} {n : Nat} {ds : List Deferred} {w0 : World} {rest : List Oper} {fr : Slots} {rs rs' : List Res} {ty t : TypeId} {x y : Operand} {pos : String} {after : Array Edge}
theorem Holds.frz {w : World} {ao : Option Addr} {m c : Nat} (h : VecFrz rs ao m c rs') (H : Holds w0 w rs) : Holds w0 w rs' := by
  obtain ⟨e, s, xs, hu⟩ := h.upd
  exact H.upd hu fun l hl => hl.freeze _ fun f o o' hr hd => slIn.mono (Hp.le_or_right hd) (rowIn.frozen hr)
theorem G.frz (ao : Option Addr) {m c : Nat} [h : VecFrz rs ao m c rs'] (k : @G P ops Q n ds w0 rest fr rs') : @G P ops Q n ds w0 rest fr rs := fun a w hf hw => k a w hf (hw.frz h)
theorem GC.frz {cd : Code} (ao : Option Addr) {m c : Nat} [h : VecFrz rs ao m c rs'] (k : @GC P cd Q n ds w0 fr rs') : @GC P cd Q n ds w0 fr rs := fun a w hf hw => k a w hf (hw.frz h)
theorem GE.frz {e : Exit} (ao : Option Addr) {m c : Nat} [h : VecFrz rs ao m c rs'] (k : @GE Q e n ds w0 fr rs') : @GE Q e n ds w0 fr rs := fun a w hf hw => k a w hf (hw.frz h)
/-- what a slice's length is -/
theorem GC.len {cd : Code} (ao : Option Addr) {m c size : Nat} {xs : List Value} [h : SlAt rs ao m c size xs] (k : xs.length = m * size ∧ m ≤ c ∧ c ≤ maxLen → @GC P cd Q n ds w0 fr rs) : @GC P cd Q n ds w0 fr rs := fun a w hf hw => k ⟨(h.get hw).len, (h.get hw).le, (h.get hw).cap⟩ a w hf hw
theorem G.len (ao : Option Addr) {m c size : Nat} {xs : List Value} [h : SlAt rs ao m c size xs] (k : xs.length = m * size ∧ m ≤ c ∧ c ≤ maxLen → @G P ops Q n ds w0 rest fr rs) : @G P ops Q n ds w0 rest fr rs := fun a w hf hw => k ⟨(h.get hw).len, (h.get hw).le, (h.get hw).cap⟩ a w hf hw

/-- a frozen slice -/
class FrzAt (rs : List Res) (ao : Option Addr) (n c : Nat) (size : outParam Nat) (xs : outParam (List Value)) : Prop where
  mem : Res.sl ao n c size xs ∈ rs
instance FrzAt.sl {size : Nat} {ao : Option Addr} {n c : Nat} {xs : List Value} {rs : List Res} : FrzAt (.sl ao n c size xs :: rs) ao n c size xs := ⟨by simp⟩
instance (priority := low) FrzAt.there {size : Nat} {ao : Option Addr} {n c : Nat} {xs : List Value} {r : Res} {rs : List Res} [h : FrzAt rs ao n c size xs] : FrzAt (r :: rs) ao n c size xs := ⟨List.mem_cons_of_mem _ h.mem⟩
theorem slIn.piece {h : Hp} {size : Nat} {ao : Option Addr} {n c : Nat} {xs : List Value} (H : slIn h ao n c size xs) (l r : Nat) (hlr : l ≤ r) (hr : r ≤ n) :
    slIn h (if c = l then ao else ao.map (·.add (l * size))) (r - l) (c - l) size ((xs.drop (l * size)).take ((r - l) * size)) := by
  obtain ⟨h1, h2, h3, h4, h5, h6⟩ := H
  have e1 : (r - l) * size = r * size - l * size := Nat.sub_mul ..
  have e2 : r * size ≤ n * size := Nat.mul_le_mul_right _ hr
  have e3 : l * size ≤ r * size := Nat.mul_le_mul_right _ hlr
  refine ⟨by rw [List.length_take, List.length_drop, h1]; omega, fun u hu => h2 u (List.mem_of_mem_drop (List.mem_of_mem_take hu)), by omega, by omega, ?_, fun h0 => ?_⟩
  · intro h
    split at h
    · omega
    · have : ao = none := by simpa using h
      have := h5 this; omega
  · obtain ⟨b, o, cur, t, z, rfl, e4, e5⟩ := h6 (by omega)
    rw [if_neg (by omega)]
    refine ⟨b, o + l * size, cur, t, z, ?_, e4, fun j u hu => ?_⟩
    · simp only [Option.map_some, Addr.add_lit]
    · rw [List.getElem?_take] at hu
      split at hu
      · rw [List.getElem?_drop] at hu
        rw [Nat.add_assoc]; exact e5 _ _ hu
      · cases hu
theorem sub_run {e size bytes m c l r : Nat} {zs : List Value} {ao : Option Addr} (hU : Und P t (.slice e)) (hI : Inf P e size bytes zs) {a : Act} {w : World} {dst : Option Tmp} {guard : Option (Nat × Bool)} {lo hi : Option Operand} (hf : FrE a n fr)
    (hx : ev fr x = some (.slice ao m c)) (hlo : (lo = none ∧ l = 0) ∨ ∃ z k, lo = some z ∧ ev fr z = some (.int k (l : Int))) (hhi : (hi = none ∧ r = m) ∨ ∃ z k, hi = some z ∧ ev fr z = some (.int k (r : Int))) (hlr : l ≤ r) (hr : r ≤ c) :
    (execOp a.eval ⟨dst, .slice t x lo hi none, ty, pos, after, guard⟩).run P w = .ok (.value (.slice (if c = l then ao else ao.map (·.add (l * size))) (r - l) (c - l))) w := by
  have h1 : (0 : Int) ≤ (l : Int) := by omega
  have h2 : (0 : Int) ≤ (r : Int) := by omega
  have h3 : (l : Int) ≤ (r : Int) := by omega
  have h4 : (r : Int) ≤ (c : Int) := by omega
  have hs := sizeOf_run hI w
  rcases hlo with ⟨rfl, rfl⟩ | ⟨z, k, rfl, hz⟩ <;> rcases hhi with ⟨rfl, rfl⟩ | ⟨z', k', rfl, hz'⟩
  · simp [execOp, Instr.sliceAt, Instr.slice, Instr.sliceBounds, Instr.sliceBound, hf.ev hx, run_underlying hU.und, hs]
  · simp [execOp, Instr.sliceAt, Instr.slice, Instr.sliceBounds, Instr.sliceBound, hf.ev hx, run_underlying hU.und, hs, hf.ev hz', asIntOf, h2, h4, hr]
  · simp [execOp, Instr.sliceAt, Instr.slice, Instr.sliceBounds, Instr.sliceBound, hf.ev hx, run_underlying hU.und, hs, hf.ev hz, asIntOf, h1, h3, hlr]
  · simp [execOp, Instr.sliceAt, Instr.slice, Instr.sliceBounds, Instr.sliceBound, hf.ev hx, run_underlying hU.und, hs, hf.ev hz, hf.ev hz', asIntOf, h1, h2, h3, h4, hr, hlr]
theorem G.sub {d e size bytes m c l r : Nat} {sz : Nat} {zs xs xs' : List Value} {ao : Option Addr} {lo hi : Option Operand} [hU : Und P t (.slice e)] [hI : Inf P e size bytes zs] (hx : ev fr x = some (.slice ao m c)) [hF : FrzAt rs ao m c sz xs] (hsz : sz = size)
    (hlo : (lo = none ∧ l = 0) ∨ ∃ z k, lo = some z ∧ ev fr z = some (.int k (l : Int))) (hhi : (hi = none ∧ r = m) ∨ ∃ z k, hi = some z ∧ ev fr z = some (.int k (r : Int))) (hlr : l ≤ r ∧ r ≤ m) (hd : Nat.blt d n = true) (hxs : (xs.drop (l * size)).take ((r - l) * size) = xs')
    (k : ∀ ao', @G P ops Q n ds w0 rest ((d, .slice ao' (r - l) (c - l)) :: fr) (.sl ao' (r - l) (c - l) size xs' :: rs)) : @G P ops Q n ds w0 (⟨some d, .slice t x lo hi none, ty, pos, after, none⟩ :: rest) fr rs := by
  subst hxs; subst hsz
  refine G.act hd fun a w pos after hf hw => ?_
  have hc : m ≤ c := (slIn.sl (hw.at hF.mem)).le
  refine ⟨_, w, sub_run hU hI hf.toFrE hx hlo hhi hlr.1 (by omega), _, ?_, k _⟩
  exact hw.derive hF.mem _ fun f o o' hs => slIn.piece hs l r hlr.1 hlr.2
/-- a string's piece -/
theorem Ex.subS {s : ByteArray} {l r : Nat} {lo hi : Option Operand} [hU : Und P t .string] (hx : ev fr x = some (.string s)) (hlo : (lo = none ∧ l = 0) ∨ ∃ z k, lo = some z ∧ ev fr z = some (.int k (l : Int))) (hhi : (hi = none ∧ r = s.size) ∨ ∃ z k, hi = some z ∧ ev fr z = some (.int k (r : Int))) (hlr : l ≤ r ∧ r ≤ s.size) :
    Ex P n w0 rs fr (.slice t x lo hi none) ty (.string (s.extract l r)) :=
  fun a w dst pos after guard hf hw => by
    have h1 : (0 : Int) ≤ (l : Int) := by omega
    have h2 : (0 : Int) ≤ (r : Int) := by omega
    have h3 : (l : Int) ≤ (r : Int) := by omega
    have h4 : (r : Int) ≤ (s.size : Int) := by omega
    obtain ⟨hlr1, hlr2⟩ := hlr
    rcases hlo with ⟨rfl, rfl⟩ | ⟨z, k, rfl, hz⟩ <;> rcases hhi with ⟨rfl, rfl⟩ | ⟨z', k', rfl, hz'⟩
    · simp [execOp, Instr.sliceAt, Instr.slice, Instr.sliceBounds, Instr.sliceBound, hf.ev hx, run_underlying hU.und]
    · simp [execOp, Instr.sliceAt, Instr.slice, Instr.sliceBounds, Instr.sliceBound, hf.ev hx, run_underlying hU.und, hf.ev hz', asIntOf, h2, h4, hlr2]
    · simp [execOp, Instr.sliceAt, Instr.slice, Instr.sliceBounds, Instr.sliceBound, hf.ev hx, run_underlying hU.und, hf.ev hz, asIntOf, h1, h3, hlr1]
    · simp [execOp, Instr.sliceAt, Instr.slice, Instr.sliceBounds, Instr.sliceBound, hf.ev hx, run_underlying hU.und, hf.ev hz, hf.ev hz', asIntOf, h1, h2, h3, h4, hlr1, hlr2]

/-- how a law's walk begins: its arguments are frozen -/
theorem Holds.arg {w : World} (H : Holds w w rs) {k : IntKind} {a : Option Addr} {len cap : Nat} {zs : List Int} (h : IsRow k w a len cap zs) : Holds w w (.sl a len cap 1 (flat (eI k) (zs.take len)) :: rs) := by
  have e : flat (eI k) (zs.take len) = (zs.take len).map (Value.int k) := by
    generalize zs.take len = l
    induction l with
    | nil => rfl
    | cons x l ih => simp only [flat, List.flatMap_cons, List.map_cons] at ih ⊢; rw [ih]; rfl
  rw [e]
  have hs := (h.sl).1
  obtain ⟨h1, h2, h3, h4, f, l, hl, hf, h0, hall, hpw⟩ := H
  refine ⟨h1, h2, h3, h4, f, (.sl a len cap 1 ((zs.take len).map (Value.int k)), Hp.nil) :: l, by simp [hl], hf, h0, ?_, List.pairwise_cons.2 ⟨fun y hy k => .inl rfl, hpw⟩⟩
  intro y hy
  rcases List.mem_cons.1 hy with rfl | hy
  · refine ⟨slIn.mono h0 ?_, fun k o e => (by cases e), fun k => .inr rfl⟩
    refine ⟨hs.len, hs.one, hs.le, hs.cap, hs.nil, fun hn => ?_⟩
    obtain ⟨b, o, had, hb, hc⟩ := hs.get hn
    have hx := hc 0 (((zs.take len).map (Value.int k))[0]'(by rw [hs.len]; omega)) (by rw [List.getElem?_eq_getElem])
    unfold World.cell? at hx
    cases hb' : w.heap[b]? with
    | none => rw [hb'] at hx; simp at hx
    | some ob =>
      rw [hb'] at hx
      cases ob with
      | cells cur t z =>
        refine ⟨b, o, cur, t, z, had, hb', fun j u hu => ?_⟩
        have := hc j u hu
        unfold World.cell? at this
        rw [hb'] at this
        simpa using this
      | _ => simp at hx
  · exact hall y hy
theorem IsRow.bound {k : IntKind} {w : World} {a : Option Addr} {len cap : Nat} {zs : List Int} (h : IsRow k w a len cap zs) : (zs.take len).length = len ∧ len ≤ maxLen ∧ ∀ z ∈ zs.take len, (Lit.int k z).wf = true := by
  have hs := h.sl
  have := hs.1.len
  exact ⟨by simpa using this, Nat.le_trans hs.1.le hs.1.cap, hs.2⟩
theorem GC.cond_t {c : Operand} {a b : Code} (hc : ev fr c = some (.bool true)) (k : @GC P a Q n ds w0 fr rs) : @GC P (.cond c a b) Q n ds w0 fr rs := GC.cond_bool hc (fun _ => k) (fun h => by cases h)
theorem GC.cond_f {c : Operand} {a b : Code} (hc : ev fr c = some (.bool false)) (k : @GC P b Q n ds w0 fr rs) : @GC P (.cond c a b) Q n ds w0 fr rs := GC.cond_bool hc (fun h => by cases h) (fun _ => k)
theorem G.l_tf {d : Nat} {op : Op} {j dj : Nat} (hj : ((ops[j]?).bind (·.dst)) = some dj) (hb : look fr dj = some (.bool false)) (hd : Nat.blt d n = true) (k : @G P ops Q n ds w0 rest ((d, undef) :: fr) rs) :
    @G P ops Q n ds w0 (⟨some d, op, ty, pos, after, some (j, true)⟩ :: rest) fr rs := G.no (b' := true) hj hb (fun c e => by injection e with e; rw [← e]; simp) hd k
theorem G.l_ft {d : Nat} {op : Op} {j dj : Nat} (hj : ((ops[j]?).bind (·.dst)) = some dj) (hb : look fr dj = some (.bool true)) (hd : Nat.blt d n = true) (k : @G P ops Q n ds w0 rest ((d, undef) :: fr) rs) :
    @G P ops Q n ds w0 (⟨some d, op, ty, pos, after, some (j, false)⟩ :: rest) fr rs := G.no (b' := true) hj hb (fun c e => by injection e with e; rw [← e]; simp) hd k
theorem Gq.l_tf {d : Nat} {op : Op} {j dj : Nat} (hj : ((ops[j]?).bind (·.dst)) = some dj) (hb : look fr dj = some (.bool false)) (hd : Nat.blt d n = true) (k : @Gq P ops K n ds w0 rs rest ((d, undef) :: fr)) :
    @Gq P ops K n ds w0 rs (⟨some d, op, ty, pos, after, some (j, true)⟩ :: rest) fr := Gq.no (b' := true) hj hb (fun c e => by injection e with e; rw [← e]; simp) hd k
theorem Ex.pickLT {c x y : Operand} {u : Value} (hc : ev fr c = some (.bool true)) (hx : ev fr x = some u) : Ex P n w0 rs fr (.pick c x y) ty u := fun a w dst pos after guard hf hw => by simp [execOp, hf.ev hc, hf.ev hx, asBool]
theorem Ex.pickLF {c x y : Operand} {u : Value} (hc : ev fr c = some (.bool false)) (hx : ev fr y = some u) : Ex P n w0 rs fr (.pick c x y) ty u := fun a w dst pos after guard hf hw => by simp [execOp, hf.ev hc, hf.ev hx, asBool]
/-- append onto nil -/
theorem G.appNil {tx d e e' size bytes m' c' : Nat} {zs news : List Value} {bo : Option Addr} [hU : Und P t (.slice e)] [hI : Inf P e size bytes zs] [hV : Und P tx (.slice e')] (hx : ev fr x = some (.slice none 0 0)) (hy : ev fr y = some (.slice bo m' c'))
    [hR : SlAt rs bo m' c' size news] (hz : zs.length = size) (hb : m' * bytes ≤ 140737488355328 ∧ m' ≤ 140737488355328) (hd : Nat.blt d n = true) {xs' : List Value} (hxs : news = xs')
    (k : ∀ ao' c'', @G P ops Q n ds w0 rest ((d, .slice ao' m' c'') :: fr) (.vec e size ao' m' c'' xs' :: rs)) : @G P ops Q n ds w0 (⟨some d, .call ⟨.builtin .append, #[x, y], #[t, tx]⟩, ty, pos, after, none⟩ :: rest) fr rs := by
  refine G.nilvec e size ?_
  haveI : SlAt (.vec e size none 0 0 [] :: rs) bo m' c' size news := SlAt.there
  refine G.app (xs' := news) hx hy hz (by simpa using hb) hd (by simp) fun ao' c'' rs2 h => ?_
  subst h; subst hxs
  have := k ao' c''
  simpa using this
end
/-- a resource that may be read as a row -/
class RdR (r : Res) (ao : outParam (Option Addr)) (n c size : outParam Nat) (xs : outParam (List Value)) : Prop where
  rd : ∀ {w0 w : World} {rs : List Res}, Holds w0 w rs → r ∈ rs → Sl w ao n c size xs
instance RdR.sl {ao : Option Addr} {n c size : Nat} {xs : List Value} : RdR (.sl ao n c size xs) ao n c size xs := ⟨fun H hr => slIn.sl (H.at hr)⟩
instance RdR.vec {t : TypeId} {ao : Option Addr} {n c size : Nat} {xs : List Value} : RdR (.vec t size ao n c xs) ao n c size xs := ⟨fun H hr => rowIn.sl (H.at hr)⟩
instance SlAt.rd {r : Res} {size : Nat} {ao : Option Addr} {n c : Nat} {xs : List Value} {rs : List Res} [h : RdR r ao n c size xs] : SlAt (r :: rs) ao n c size xs := ⟨fun H => h.rd H (List.mem_cons_self ..)⟩
instance CelAt.rd {r : Res} {size : Nat} {ao : Option Addr} {n c : Nat} {xs : List Value} {rs : List Res} [h : RdR r ao n c size xs] : CelAt (r :: rs) ao xs := ⟨fun H => ⟨n, c, size, h.rd H (List.mem_cons_self ..)⟩⟩
end Go.Proofs.YtmceappjldcbmaaGreatDoor
