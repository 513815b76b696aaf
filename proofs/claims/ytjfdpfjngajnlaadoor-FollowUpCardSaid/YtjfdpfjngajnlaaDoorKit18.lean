/-
  THE KIT OF MY OWN, EIGHTEENTH PART: strings as keys, bytes as a string, an entry laid into a map; many rows frozen. Over any program; no condition.
-/
import Derived.Test.YtjfdpfjngajnlaaDoorKit17
import Derived.Laws.BytesString
namespace Go.Proofs.YtjfdpfjngajnlaaDoor
open Go.RowKit Go.Sort
set_option linter.unusedVariables false
set_option linter.unusedSimpArgs false

/-- bytes as a string -/
def strOf (l : List UInt8) : ByteArray := (l.map fun x => (x.toNat : Int)).foldl (fun r n => r.push (UInt8.ofNat n.toNat)) ByteArray.empty
def eStr (s : ByteArray) : Value := .string s
theorem ba_beq (a b : ByteArray) : (a == b) = decide (a = b) := by
  show ByteArray.beq a b = _
  unfold ByteArray.beq
  by_cases h : a = b
  · subst h; simp
  · rw [decide_eq_false h, beq_eq_false_iff_ne]
    exact fun e => h (ByteArray.ext e)
theorem str_find (d : ByteArray) : ∀ (L : List (ByteArray × Value)) (i : Nat), Instr.findNow .string (eStr d) (ents eStr L i) i = some (lookI d L i)
  | [], i => rfl
  | q :: t, i => by
    have ih := str_find d t (i + 1)
    simp only [ents, Instr.findNow, eStr, Instr.sameNow, lookI, ba_beq]
    by_cases h : d = q.1
    · simp [h]
    · simp only [h, decide_false, if_false]; exact ih
theorem keyStr {P : Program} {kt : TypeId} (hU : Und P kt .string) : KeyK P kt eStr where
  chk := fun em k w => by
    rw [show 10000 = 9999 + 1 from rfl]
    unfold Instr.checkKey
    simp [run_underlying hU.und, eStr]
  same := fun k => by simp [eStr, Instr.sameBits, ba_beq]
  find := fun k L w => by
    unfold Instr.findKey
    simp only [Sem.run_bind, run_underlying hU.und, Result.andThen_ok, str_find]
    rfl
section
variable {P : Program} {ops : Array Oper} {Q : Exit → Act → World → Prop} {K : Act → Prop} {n : Nat} {ds : List Deferred} {w0 : World} {rest : List Oper} {fr : Slots} {rs rs' : List Res} {ty t tx t' : TypeId} {x y z : Operand} {pos : String} {after : Array Edge}
variable {κ : Type} {ek : κ → Value}
theorem Ex.convBS {src dst e m c sz : Nat} {ao : Option Addr} {l : List UInt8} [hU : Und P src (.slice e)] [hE : Und P e (.int .u8)] [hV : Und P dst .string] (hx : ev fr x = some (.slice ao m c)) [hR : SlAt rs ao m c sz (flat eB l)] (hl : l.length = m) (hm : 0 < m) :
    Ex P n w0 rs fr (.convert src dst x) ty (.string (strOf l)) :=
  fun a w _ _ _ _ hf hw => by
    obtain ⟨b, o, rfl, _, hc⟩ := (hR.get hw).get hm
    have hcells : flat eB l = (l.map fun x => (x.toNat : Int)).map (Value.int .u8) := by
      rw [flat_cell, List.map_map]; rfl
    have hload : (loadCells ⟨b, o, none⟩ m).run P w = .ok ((l.map fun x => (x.toNat : Int)).map (Value.int .u8)).toArray w := by
      rw [← hcells]
      have := loadCells_run (P := P) (p := ⟨b, o, none⟩) (w := w) (flat eB l) (fun j v hv => by rw [Addr.add_lit]; exact hc j v hv)
      rw [flat_len (inferInstance : Enc eB 1), Nat.mul_one, hl] at this
      exact this
    have h2 := run_bytesToString (P := P) w ⟨b, o, none⟩ m c _ hload
    simp only [execOp, hf.ev hx, Sem.run_bind, run_convert_bytes_string w src dst e (some ⟨b, o, none⟩) m c hU.und hE.und hV.und, h2]
    rfl
theorem G.mapUpdate [DecidableEq κ] {kt et b : Nat} {L L' : List (κ × Value)} {k : κ} {u : Value} {f : List (κ × Value) → List Res} [hU : Und P t (.map kt et)] [hM : MapAt rs b ek L f] [hK : KeyK P kt ek]
    (hx : ev fr x = some (.map (some b))) (hy : ev fr y = some (ek k)) (hz : ev fr z = some u) (hj : (∃ j v, lookI k L 0 = some (j, v) ∧ L' = L.set j (k, u)) ∨ (lookI k L 0 = none ∧ L' = L ++ [(k, u)]))
    (kk : ∀ rs', rs' = f L' → @G P ops Q n ds w0 rest fr rs') : @G P ops Q n ds w0 (⟨none, .mapUpdate t x y z, ty, pos, after, none⟩ :: rest) fr rs := by
  refine G.actU (rs' := f L') (fun a w pos after hf hw => ?_) (kk _ rfl)
  have hb := map_blk hM hw
  have hfd := hK.find k L w
  rcases hj with ⟨j, v, hl, rfl⟩ | ⟨hl, rfl⟩
  · obtain ⟨_, hget⟩ := lookI_some hl
    simp only [Nat.sub_zero] at hget
    have hlt := (List.getElem?_eq_some_iff.1 hget).1
    have he : (ents ek L 0).toArray[j]? = some ⟨ek k, v, j⟩ := by
      rw [List.getElem?_toArray, ents_get, hget]; simp
    have hks : (Instr.keyThatStays (ek k) (ek k)).run P w = .ok (ek k) w := by
      unfold Instr.keyThatStays
      rw [if_pos (hK.same k)]; rfl
    have hmod : ((ents ek L 0).toArray.modify j fun e => { e with key := ek k, val := u }) = (ents ek (L.set j (k, u)) 0).toArray := by
      rw [ents_set ek L 0 j k v u hget]
      apply Array.ext'
      simp only [Array.toList_modify, List.toList_toArray]
      apply List.ext_getElem?
      intro i
      rw [List.getElem?_modify, List.getElem?_modify]
      by_cases hij : j = i
      · subst hij
        have he' : (ents ek L 0)[j]? = some ⟨ek k, v, j⟩ := by simpa using he
        rw [he']; simp
      · simp [hij]
    have hlen : (L.set j (k, u)).length = L.length := by simp
    refine ⟨_, ?_, hw.upd (hM.upd (L.set j (k, u))) fun l h => Holds.setMap (L' := L.set j (k, u)) h⟩
    rw [hlen]
    simp only [execOp, Instr.mapUpdate, hf.ev hx, hf.ev hy, hf.ev hz, Sem.run_bind, run_underlying hU.und, Result.andThen_ok, getObj_run hb, hK.chk, Sem.run_pure, List.toList_toArray, hfd, hl, he, Option.map_some, Option.getD_some, hks, hmod, setObj_run _ hb]
  · have hpush : (ents ek L 0).toArray.push ⟨ek k, u, L.length⟩ = (ents ek (L ++ [(k, u)]) 0).toArray := by
      rw [ents_app]; simp [ents]
    have hlen : (L ++ [(k, u)]).length = L.length + 1 := by simp
    refine ⟨_, ?_, hw.upd (hM.upd (L ++ [(k, u)])) fun l h => Holds.setMap (L' := L ++ [(k, u)]) h⟩
    rw [hlen]
    simp only [execOp, Instr.mapUpdate, hf.ev hx, hf.ev hy, hf.ev hz, Sem.run_bind, run_underlying hU.und, Result.andThen_ok, getObj_run hb, hK.chk, Sem.run_pure, List.toList_toArray, hfd, hl, hpush, setObj_run _ hb]
/-- many rows of one's own, all frozen -/
theorem Holds.starFrz {w : World} {α : Type} {enc : α → List Value} {s : Nat} {e : TypeId} : ∀ {l : List (SlD α)} {rs : List Res}, Holds w0 w (.own (Star (l.map fun x => .vec e s x.ao x.n x.c (flat enc x.l))) :: rs) → Holds w0 w (.per (Rd enc s l) :: rs)
  | [], rs, H => H.tail.rdNil enc s
  | x :: t, rs, H => by
    have h1 : Holds w0 w (.vec e s x.ao x.n x.c (flat enc x.l) :: .own (Star (t.map fun x => .vec e s x.ao x.n x.c (flat enc x.l))) :: rs) := H.starOut
    have h2 : Holds w0 w (.own (Star (t.map fun x => .vec e s x.ao x.n x.c (flat enc x.l))) :: .vec e s x.ao x.n x.c (flat enc x.l) :: rs) := h1.perm (List.Perm.swap ..)
    have h3 := Holds.starFrz h2
    have h4 : Holds w0 w (.vec e s x.ao x.n x.c (flat enc x.l) :: .per (Rd enc s t) :: rs) := h3.perm (List.Perm.swap ..)
    have h5 : Holds w0 w (.sl x.ao x.n x.c s (flat enc x.l) :: .per (Rd enc s t) :: rs) := h4.freeze _ fun f o o' hr hd => slIn.mono (Hp.le_or_right hd) (rowIn.frozen hr)
    exact h5.join fun f a b ha hb _ y hy => by
      rcases List.mem_cons.1 hy with rfl | hy
      · exact ha
      · exact hb y hy
end
end Go.Proofs.YtjfdpfjngajnlaaDoor
