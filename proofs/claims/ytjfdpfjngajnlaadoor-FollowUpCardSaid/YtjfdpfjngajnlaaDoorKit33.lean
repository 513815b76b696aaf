/-
  THE KIT OF MY OWN, THIRTY-THIRD PART: a range over a string, valid UTF-8 or not; calls of the library's entries; scopes that no goto leaves; a number as a string. Over any program; no condition.
-/
import Derived.Test.YtjfdpfjngajnlaaDoorKit32
import Derived.Laws.RangeString
import Derived.Laws.Runes
import Derived.Lib.Bytealg
import Derived.Scope
namespace Go.Proofs.YtjfdpfjngajnlaaDoor
open Go.RowKit Go.Sort
set_option linter.unusedVariables false
set_option linter.unusedSimpArgs false
theorem sOf_get (l : List UInt8) (k : Nat) : ((sOf l).get! k).toNat = (l.getD k 0).toNat := by
  congr 1
  show (l.toArray)[k]! = l.getD k 0
  rw [List.getElem!_toArray]
  by_cases h : k < l.length
  · rw [List.getD_eq_getElem?_getD, List.getElem?_eq_getElem h, getElem!_pos l k h]; rfl
  · rw [List.getD_eq_getElem?_getD, List.getElem?_eq_none (by omega), getElem!_neg l k h]; rfl
theorem decode_hi (l : List UInt8) (i : Nat) (h : i < l.length) (hb : 128 ≤ (l.getD i 0).toNat) :
    ∃ c w, Utf8.decode (sOf l) i = (c, w) ∧ 128 ≤ c ∧ c < 1114112 ∧ Utf8.valid (c : Int) = true ∧ 1 ≤ w ∧ i + w ≤ l.length ∧ ∀ k, k < w → 128 ≤ (l.getD (i + k) 0).toNat := by
  have hsz : (sOf l).size = l.length := by simp [sOf, ByteArray.size]
  have one : ∃ c w, ((Utf8.runeError, 1) : Nat × Nat) = (c, w) ∧ 128 ≤ c ∧ c < 1114112 ∧ Utf8.valid (c : Int) = true ∧ 1 ≤ w ∧ i + w ≤ l.length ∧ ∀ k, k < w → 128 ≤ (l.getD (i + k) 0).toNat :=
    ⟨_, _, rfl, by decide, by decide, by decide, Nat.le_refl _, h, fun k hk => by rw [show k = 0 by omega]; exact hb⟩
  unfold Utf8.decode
  simp only [sOf_get, hsz, Nat.add_zero]
  rw [if_neg (by omega)]
  have hv : ∀ c : Nat, (c < 55296 ∨ (57344 ≤ c ∧ c ≤ 1114111)) → Utf8.valid (c : Int) = true := by
    intro c hc
    unfold Utf8.valid
    simp only [Bool.or_eq_true, Bool.and_eq_true, decide_eq_true_eq]
    omega
  by_cases c2 : ((l.getD i 0).toNat / 32 == 6 && (decide (i + 1 < l.length) && (l.getD (i + 1) 0).toNat / 64 == 2)) = true
  · rw [if_pos c2]
    simp only [Bool.and_eq_true, beq_iff_eq, decide_eq_true_eq] at c2
    split
    · refine ⟨_, _, rfl, by omega, by omega, hv _ (by omega), by decide, by omega, fun k hk => ?_⟩
      have : k = 0 ∨ k = 1 := by omega
      rcases this with rfl | rfl
      · exact hb
      · omega
    · exact one
  · rw [if_neg c2]
    by_cases c3 : ((l.getD i 0).toNat / 16 == 14 && (decide (i + 1 < l.length) && (l.getD (i + 1) 0).toNat / 64 == 2) && (decide (i + 2 < l.length) && (l.getD (i + 2) 0).toNat / 64 == 2)) = true
    · rw [if_pos c3]
      simp only [Bool.and_eq_true, beq_iff_eq, decide_eq_true_eq] at c3
      split
      · rename_i hc
        simp only [Bool.and_eq_true, decide_eq_true_eq] at hc
        refine ⟨_, _, rfl, by omega, by omega, hc.2, by decide, by omega, fun k hk => ?_⟩
        have : k = 0 ∨ k = 1 ∨ k = 2 := by omega
        rcases this with rfl | rfl | rfl
        · exact hb
        · omega
        · omega
      · exact one
    · rw [if_neg c3]
      split
      · rename_i c4
        simp only [Bool.and_eq_true, beq_iff_eq, decide_eq_true_eq] at c4
        split
        · rename_i hc
          simp only [Bool.and_eq_true, decide_eq_true_eq] at hc
          have hlt := hc.2
          unfold Utf8.valid at hlt
          simp only [Bool.or_eq_true, Bool.and_eq_true, decide_eq_true_eq] at hlt
          refine ⟨_, _, rfl, by omega, by omega, hc.2, by decide, by omega, fun k hk => ?_⟩
          have : k = 0 ∨ k = 1 ∨ k = 2 ∨ k = 3 := by omega
          rcases this with rfl | rfl | rfl | rfl
          · exact hb
          · omega
          · omega
          · omega
        · exact one
      · exact one
/-- texts -/
def eO (s : List UInt8) : List Value := [.string (sOf s)]
instance : Enc eO 1 := ⟨fun _ => rfl, fun x u hu => by simp [eO] at hu; subst hu; rfl⟩
/-- a number as a string -/
def encL (r : Int) : List UInt8 := (Utf8.encode r).data.toList
theorem enc_sOf (r : Int) : Utf8.encode r = sOf (encL r) := by
  unfold encL sOf; rfl
theorem lastB (k : Nat) (hk : k < 64) : 128 ≤ (UInt8.ofNat (128 + k)).toNat := by
  rw [UInt8.toNat_ofNat']; omega
theorem enc_hi (c : Nat) (h : 128 ≤ c) (hv : Utf8.valid (c : Int) = true) : ∃ b : List UInt8, (Utf8.encode (c : Int)) = sOf b ∧ 2 ≤ b.length ∧ b.length ≤ 4 ∧ 128 ≤ (b.getLast?.getD 0).toNat := by
  have hl := lastB (c % 64) (by omega)
  unfold Utf8.encode sOf
  simp only [hv, if_true, Int.toNat_natCast]
  rw [if_neg (by omega)]
  by_cases h1 : c < 0x800
  · rw [if_pos h1]
    exact ⟨[_, _], rfl, by simp, by simp, hl⟩
  · rw [if_neg h1]
    by_cases h2 : c < 0x10000
    · rw [if_pos h2]
      exact ⟨[_, _, _], rfl, by simp, by simp, hl⟩
    · rw [if_neg h2]
      exact ⟨[_, _, _, _], rfl, by simp, by simp, hl⟩
theorem encL_of {r : Int} {b : List UInt8} (h : Utf8.encode r = sOf b) : encL r = b := congrArg (fun s : ByteArray => s.data.toList) h
theorem last_getD (b : List UInt8) (h : 128 ≤ (b.getLast?.getD 0).toNat) : 128 ≤ (b.getD (b.length - 1) 0).toNat := by
  rw [List.getD_eq_getElem?_getD, ← List.getLast?_eq_getElem?]; exact h
theorem encL_hi (c : Nat) (h : 128 ≤ c) (hv : Utf8.valid (c : Int) = true) : ∃ b : List UInt8, encL (c : Int) = b ∧ 2 ≤ b.length ∧ b.length ≤ 4 ∧ 128 ≤ (b.getD (b.length - 1) 0).toNat :=
  match enc_hi c h hv with
  | ⟨b, h1, h2, h3, h4⟩ => ⟨b, encL_of h1, h2, h3, last_getD b h4⟩
theorem decode_lo (l : List UInt8) (i : Nat) (h : i < l.length) (hb : (l.getD i 0).toNat < 128) : Utf8.decode (sOf l) i = ((l.getD i 0).toNat, 1) := by
  unfold Utf8.decode
  simp only [sOf_get, Nat.add_zero]
  rw [if_pos (by omega)]
/-- where a range over a string stands -/
def IterR (b : Nat) (s : ByteArray) (pos : Nat) : Own2 where
  sat _ o := o b = some (.stringIter s pos)
  mono := fun _ ho h => ho _ _ h
section
variable {P : Program} {ops : Array Oper} {Q : Exit → Act → World → Prop} {n : Nat} {ds : List Deferred} {w0 : World} {rest : List Oper} {fr : Slots} {rs rs' : List Res} {ty t tx t' : TypeId} {x y z : Operand} {pos : String} {after : Array Edge}
theorem Ex.convIS {src dst : TypeId} {k kk : IntKind} {a : Int} [hU : Und P src (.int kk)] [hV : Und P dst .string] (hx : ev fr x = some (.int k a)) : Ex P n w0 rs fr (.convert src dst x) ty (.string (sOf (encL a))) :=
  fun _ w _ _ _ _ hf _ => by
    have := run_convert_int_string (P := P) w src dst k a (by rw [hU.und]; rfl) hV.und
    simp only [execOp, hf.ev hx, Sem.run_bind, this, enc_sOf]
    rfl
theorem iter_blk {w : World} {b p : Nat} {s : ByteArray} (H : Holds w0 w rs) (hm : Res.own (IterR b s p) ∈ rs) : w.heap[b]? = some (.stringIter s p) := H.at hm
theorem Holds.setIter {w : World} {b p p' : Nat} {s : ByteArray} (H : Holds w0 w (.own (IterR b s p) :: rs)) : Holds w0 { w with heap := w.heap.setIfInBounds b (.stringIter s p') } (.own (IterR b s p') :: rs) := by
  refine H.step rfl rfl rfl (by simp) fun f o hr hf ho => ?_
  have hr' : o b = some (.stringIter s p) := hr
  have hb : w.heap[b]? = some (.stringIter s p) := ho _ _ hr'
  have hlt := (Array.getElem?_eq_some_iff.1 hb).1
  refine ⟨Hp.one b (.stringIter s p'), Hp.one_self _ _, Hp.one_le ?_, fun i hi hno => ?_⟩
  · show (w.heap.setIfInBounds b _)[b]? = _
    simp [hlt]
  · have hib : i ≠ b := fun e => by rw [e, hr'] at hno; cases hno
    refine ⟨Hp.one_ne _ hib, ?_⟩
    show (w.heap.setIfInBounds b _)[i]? = w.heap[i]?
    rw [Array.getElem?_setIfInBounds_ne (Ne.symm hib)]
theorem G.rangeS {d : Nat} {l : List UInt8} [hU : Und P t .string] (hx : ev fr x = some (.string (sOf l))) (hd : Nat.blt d n = true) (k : ∀ b, @G P ops Q n ds w0 rest ((d, .pointer (some (badr b 0))) :: fr) (.own (IterR b (sOf l) 0) :: rs)) :
    @G P ops Q n ds w0 (⟨some d, .range t x, ty, pos, after, none⟩ :: rest) fr rs := by
  refine G.act hd fun a w pos after hf hw => ⟨.pointer (some (badr w.heap.size 0)), w.iter (sOf l) 0, ?_, .own (IterR w.heap.size (sOf l) 0) :: rs, ?_, k w.heap.size⟩
  · have := run_range_string (P := P) w t (sOf l) hU.und
    simp only [execOp, hf.ev hx, Sem.run_bind, this]
    rfl
  · exact hw.add rfl rfl rfl (by simp [World.iter]) (fun k hk => Below.heap_alloc _ _ _ hk) (Hp.one w.heap.size (.stringIter (sOf l) 0)) (Hp.one_le (heap_alloc_new w _)) (fun k hk => Hp.one_ne _ (by omega)) (fun f _ => Hp.one_self _ _)
theorem next_end {w : World} {b p : Nat} {s : ByteArray} (hb : w.heap[b]? = some (.stringIter s p)) (h : ¬ p < s.size) : (Instr.next (.pointer (some (badr b 0))) true ty).run P w = .ok (.tuple #[.bool false]) w := by
  simp [Instr.next, getObj, Sem.run, badr, hb, h]
theorem next_go {w : World} {b p c wd : Nat} {s : ByteArray} (hb : w.heap[b]? = some (.stringIter s p)) (h : p < s.size) (hc : Utf8.decode s p = (c, wd)) :
    (Instr.next (.pointer (some (badr b 0))) true ty).run P w = .ok (.tuple #[.bool true, .int .i64 (p : Int), .int .i32 (c : Int)]) { w with heap := w.heap.setIfInBounds b (.stringIter s (p + wd)) } := by
  have hs : ∀ o, (setObj b o).run P w = .ok () { w with heap := w.heap.setIfInBounds b o } := fun o => by simp [setObj, Sem.run, hb]
  simp [Instr.next, getObj, Sem.run_bind, Sem.run, badr, hb, h, hc]
  simp [setObj, Sem.run, hb, goInt]
theorem G.nextE {d b : Nat} {l : List UInt8} {p : Nat} (hx : ev fr x = some (.pointer (some (badr b 0)))) (hm : Res.own (IterR b (sOf l) p) ∈ rs) (h : ¬ p < l.length) (hd : Nat.blt d n = true) (k : @G P ops Q n ds w0 rest ((d, .tuple #[.bool false]) :: fr) rs) :
    @G P ops Q n ds w0 (⟨some d, .next x true, ty, pos, after, none⟩ :: rest) fr rs :=
  G.act hd fun a w pos after hf hw => ⟨_, w, by
    have := next_end (P := P) (ty := ty) (iter_blk hw hm) (by rw [sOf_size]; exact h)
    simp only [execOp, hf.ev hx, Sem.run_bind, this]
    rfl, rs, hw, k⟩
theorem G.nextS {d b c wd : Nat} {l : List UInt8} {p : Nat} (hx : ev fr x = some (.pointer (some (badr b 0)))) (h : p < l.length) (hc : Utf8.decode (sOf l) p = (c, wd)) (hu : Upd rs (.own (IterR b (sOf l) p)) (.own (IterR b (sOf l) (p + wd))) rs') (hd : Nat.blt d n = true)
    (k : @G P ops Q n ds w0 rest ((d, .tuple #[.bool true, .int .i64 (p : Int), .int .i32 (c : Int)]) :: fr) rs') :
    @G P ops Q n ds w0 (⟨some d, .next x true, ty, pos, after, none⟩ :: rest) fr rs := by
  refine G.act hd fun a w pos after hf hw => ?_
  obtain ⟨l0, h1, h2⟩ := hu.split
  have hb : w.heap[b]? = some (.stringIter (sOf l) p) := iter_blk (hw.perm h1) (List.mem_cons_self ..)
  have := next_go (P := P) (ty := ty) hb (by rw [sOf_size]; exact h) hc
  refine ⟨_, _, ?_, rs', ((hw.perm h1).setIter (p' := p + wd)).perm h2.symm, k⟩
  simp only [execOp, hf.ev hx, Sem.run_bind, this]
  rfl
/-- a call of one of the library's entries, which only reads -/
theorem Ex.ext {f : FuncId} {c : Operand} {xs : List Operand} {ts : Array TypeId} {vs : List Value} {v : Value} (h : ∀ w, (callFunc f vs.toArray).run P w = .ok (.value v) w) (hc : ev fr c = some (.func (.func f) #[] #[])) (hx : evs fr xs = some vs) : Ex P n w0 rs fr (.call ⟨.value c, xs.toArray, ts⟩) ty v :=
  fun a w _ _ _ _ hf _ => by
    have hm := hf.evs hx
    subst hm
    have h' := h w
    simp [execOp, resolve, hf.ev hc, Deferred.ofValue, invoke, List.map_toArray, h']
theorem GC.scope {c : Code} (h : @GC P c (Exit.noGoto Q) n ds w0 fr rs) : @GC P (.scope c) Q n ds w0 fr rs := fun a w hf hw => wp_scope_straight (h a w hf hw)
theorem GE.ng_normal (h : @GE Q .normal n ds w0 fr rs) : @GE (Exit.noGoto Q) .normal n ds w0 fr rs := fun a w hf hw => h a w hf hw
theorem GE.ng_ret (h : @GE Q .ret n ds w0 fr rs) : @GE (Exit.noGoto Q) .ret n ds w0 fr rs := fun a w hf hw => h a w hf hw
theorem GE.ng_exit {id : Nat} (h : @GE Q (.exit id) n ds w0 fr rs) : @GE (Exit.noGoto Q) (.exit id) n ds w0 fr rs := fun a w hf hw => h a w hf hw
theorem GC.label {l : Nat} (h : @GE Q .normal n ds w0 fr rs) : @GC P (.label l) Q n ds w0 fr rs := fun a w hf hw => wp_label (h a w hf hw)
end
end Go.Proofs.YtjfdpfjngajnlaaDoor
