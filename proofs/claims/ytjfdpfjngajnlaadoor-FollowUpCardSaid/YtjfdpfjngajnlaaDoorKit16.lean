/-
  THE KIT OF MY OWN, SIXTEENTH PART: maps that the call makes; arrays of bytes as keys. Over any program; no condition.
-/
import Derived.Test.YtjfdpfjngajnlaaDoorKit15
import Derived.MapKept
import Derived.Stop.BytesEq
namespace Go.Proofs.YtjfdpfjngajnlaaDoor
open Go.RowKit Go.Sort
set_option linter.unusedVariables false
set_option linter.unusedSimpArgs false

/-- a map's entries: keys and values, the n-th one born at n -/
def ents {κ : Type} (ek : κ → Value) : List (κ × Value) → Nat → List MapEntry
  | [], _ => []
  | e :: t, i => ⟨ek e.1, e.2, i⟩ :: ents ek t (i + 1)
def lookI {κ : Type} [DecidableEq κ] (k : κ) : List (κ × Value) → Nat → Option (Nat × Value)
  | [], _ => none
  | e :: t, i => if k = e.1 then some (i, e.2) else lookI k t (i + 1)
class KeyK (P : Program) (kt : TypeId) {κ : Type} [DecidableEq κ] (ek : κ → Value) : Prop where
  chk : ∀ em k w, (Instr.checkKey em 10000 kt (ek k)).run P w = .ok () w
  same : ∀ k, Instr.sameBits 10000 (ek k) (ek k) = true
  find : ∀ k (L : List (κ × Value)) w, (Instr.findKey kt (ek k) (ents ek L 0)).run P w = .ok (lookI k L 0) w
theorem ents_len {κ : Type} (ek : κ → Value) : ∀ (L : List (κ × Value)) (i : Nat), (ents ek L i).length = L.length
  | [], _ => rfl
  | e :: t, i => by simp [ents, ents_len ek t]
theorem ents_app {κ : Type} (ek : κ → Value) : ∀ (L M : List (κ × Value)) (i : Nat), ents ek (L ++ M) i = ents ek L i ++ ents ek M (i + L.length)
  | [], M, i => by simp [ents]
  | e :: t, M, i => by simp only [List.cons_append, ents, ents_app ek t M (i + 1), List.length_cons]; rw [show i + 1 + t.length = i + (t.length + 1) by omega]
theorem lookI_some {κ : Type} [DecidableEq κ] {k : κ} : ∀ {L : List (κ × Value)} {i j : Nat} {v : Value}, lookI k L i = some (j, v) → i ≤ j ∧ L[j - i]? = some (k, v)
  | e :: t, i, j, v, h => by
    unfold lookI at h
    split at h
    · rename_i hk
      simp only [Option.some.injEq, Prod.mk.injEq] at h
      obtain ⟨rfl, rfl⟩ := h
      simp [hk]
    · obtain ⟨h1, h2⟩ := lookI_some h
      refine ⟨by omega, ?_⟩
      rw [show j - i = (j - (i + 1)) + 1 by omega]; simpa using h2
theorem ents_get {κ : Type} (ek : κ → Value) : ∀ (L : List (κ × Value)) (i j : Nat), (ents ek L i)[j]? = (L[j]?).map fun e => ⟨ek e.1, e.2, i + j⟩
  | [], i, j => by simp [ents]
  | e :: t, i, 0 => by simp [ents]
  | e :: t, i, j + 1 => by simp only [ents, List.getElem?_cons_succ, ents_get ek t (i + 1) j]; rw [show i + 1 + j = i + (j + 1) by omega]
theorem ents_set {κ : Type} (ek : κ → Value) : ∀ (L : List (κ × Value)) (i j : Nat) (k : κ) (v u : Value), L[j]? = some (k, v) → ents ek (L.set j (k, u)) i = (ents ek L i).modify j fun e => { e with val := u }
  | e :: t, i, 0, k, v, u, h => by simp at h; subst h; simp [ents]
  | e :: t, i, j + 1, k, v, u, h => by simp [ents, ents_set ek t (i + 1) j k v u (by simpa using h)]
theorem ents_find {κ : Type} (ek : κ → Value) : ∀ (L : List (κ × Value)) (i j : Nat), j < L.length → (ents ek L i).findIdx? (fun e => (e.born : Int) == ((i + j : Nat) : Int)) = some j
  | e :: t, i, 0, h => by simp [ents, List.findIdx?_cons]
  | e :: t, i, j + 1, h => by
    have ih := ents_find ek t (i + 1) j (by simpa using h)
    rw [show i + (j + 1) = i + 1 + j by omega]
    simp only [ents, List.findIdx?_cons]
    rw [if_neg (by simp; omega), ih]; rfl

/-- a map's block -/
def MapR {κ : Type} (ek : κ → Value) (b : Nat) (L : List (κ × Value)) : Own2 where
  sat _ o := o b = some (.map (ents ek L 0).toArray L.length)
  mono := fun _ ho h => ho _ _ h
section
variable {P : Program} {ops : Array Oper} {Q : Exit → Act → World → Prop} {K : Act → Prop} {n : Nat} {ds : List Deferred} {w0 : World} {rest : List Oper} {fr : Slots} {rs rs' : List Res} {ty t tx t' : TypeId} {x y z : Operand} {pos : String} {after : Array Edge}
variable {κ : Type} {ek : κ → Value}

theorem G.makeMap {d : Nat} (ek : κ → Value) (hd : Nat.blt d n = true) (k : ∀ b, @G P ops Q n ds w0 rest ((d, .map (some b)) :: fr) (.own (MapR ek b []) :: rs)) :
    @G P ops Q n ds w0 (⟨some d, .makeMap t none, ty, pos, after, none⟩ :: rest) fr rs := by
  refine G.act hd fun a w pos after hf hw => ⟨.map (some w.heap.size), w.alloc (.map #[] 0), ?_, _, ?_, k w.heap.size⟩
  · simp [execOp, Instr.makeMap]
  · exact hw.add rfl rfl rfl (by simp) (fun k hk => Below.heap_alloc _ _ _ hk) (Hp.one w.heap.size (.map #[] 0)) (Hp.one_le (heap_alloc_new w _)) (fun k hk => Hp.one_ne _ (by omega)) (fun f _ => Hp.one_self _ _)
class MapAt (rs : List Res) (b : Nat) {κ : outParam Type} (ek : outParam (κ → Value)) (L : outParam (List (κ × Value))) (f : outParam (List (κ × Value) → List Res)) : Prop where
  upd : ∀ L', Upd rs (.own (MapR ek b L)) (.own (MapR ek b L')) (f L')
instance MapAt.here {b : Nat} {κ : Type} {ek : κ → Value} {L : List (κ × Value)} {rs : List Res} : MapAt (.own (MapR ek b L) :: rs) b ek L (fun L' => .own (MapR ek b L') :: rs) := ⟨fun _ => .here⟩
instance (priority := low) MapAt.there {b : Nat} {κ : Type} {ek : κ → Value} {L : List (κ × Value)} {r : Res} {rs : List Res} {f : List (κ × Value) → List Res} [h : MapAt rs b ek L f] : MapAt (r :: rs) b ek L (fun L' => r :: f L') := ⟨fun a => .there (h.upd a)⟩
theorem map_blk {w : World} {b : Nat} {L : List (κ × Value)} {f : List (κ × Value) → List Res} (h : MapAt rs b ek L f) (H : Holds w0 w rs) : w.heap[b]? = some (.map (ents ek L 0).toArray L.length) := by
  obtain ⟨l, h1, _⟩ := (h.upd L).split
  exact (H.perm h1).at (List.mem_cons_self ..)
theorem Holds.setMap {w : World} {b : Nat} {L L' : List (κ × Value)} {rs : List Res} (H : Holds w0 w (.own (MapR ek b L) :: rs)) :
    Holds w0 { w with heap := w.heap.setIfInBounds b (.map (ents ek L' 0).toArray L'.length) } (.own (MapR ek b L') :: rs) := by
  refine H.step rfl rfl rfl (by simp) fun f o hr hf ho => ?_
  have hr' : o b = some (.map (ents ek L 0).toArray L.length) := hr
  have hb : w.heap[b]? = some (.map (ents ek L 0).toArray L.length) := ho _ _ hr'
  have hlt := (Array.getElem?_eq_some_iff.1 hb).1
  refine ⟨Hp.one b (.map (ents ek L' 0).toArray L'.length), Hp.one_self _ _, Hp.one_le ?_, fun i hi hno => ?_⟩
  · show (w.heap.setIfInBounds b _)[b]? = _
    simp [hlt]
  · have hib : i ≠ b := fun e => by rw [e, hr'] at hno; cases hno
    refine ⟨Hp.one_ne _ hib, ?_⟩
    show (w.heap.setIfInBounds b _)[i]? = w.heap[i]?
    rw [Array.getElem?_setIfInBounds_ne (Ne.symm hib)]
/-- a type's zero value -/
class Zer (P : Program) (t : TypeId) (zv : outParam Value) : Prop where
  zer : (P.info? t).map (·.zero) = some (some zv)
theorem zeroValue_run {t : TypeId} {zv : Value} (h : Zer P t zv) (w : World) : (zeroValue t).run P w = .ok zv w := by
  have := h.zer
  cases e : P.info? t with
  | none => rw [e] at this; simp at this
  | some i =>
    rw [e] at this
    simp only [Option.map_some, Option.some.injEq] at this
    simp [zeroValue, typeInfo, e, this]
theorem getObj_run {w : World} {b : Nat} {es : Array MapEntry} {c : Nat} (hb : w.heap[b]? = some (.map es c)) : (getObj b).run P w = .ok (.map es c) w := by simp [getObj, Sem.run, hb]
theorem setObj_run {w : World} {b : Nat} {es : Array MapEntry} {c : Nat} (o : Obj) (hb : w.heap[b]? = some (.map es c)) : (setObj b o).run P w = .ok () { w with heap := w.heap.setIfInBounds b o } := by simp [setObj, Sem.run, hb]
theorem Ex.lookup [DecidableEq κ] {kt et b : Nat} {zv v : Value} {L : List (κ × Value)} {k : κ} {f : List (κ × Value) → List Res} [hU : Und P t (.map kt et)] [hZ : Zer P et zv] [hM : MapAt rs b ek L f] [hK : KeyK P kt ek]
    (hx : ev fr x = some (.map (some b))) (hy : ev fr y = some (ek k)) (hv : ((lookI k L 0).map Prod.snd).getD zv = v) : Ex P n w0 rs fr (.lookup t x y false) ty v :=
  fun a w dst pos after guard hf hw => by
    have hb := map_blk hM hw
    have hfd := hK.find k L w
    subst hv
    simp only [execOp, Instr.lookup, hf.ev hx, hf.ev hy, Sem.run_bind, run_underlying hU.und, Result.andThen_ok, getObj_run hb, hK.chk, Sem.run_pure, List.toList_toArray, hfd]
    cases hl : lookI k L 0 with
    | none => simp [zeroValue_run hZ]
    | some p => simp
/-- an entry that is there, or is made -/
theorem G.mapEntry [DecidableEq κ] {d kt et b : Nat} {zv : Value} {L L' : List (κ × Value)} {k : κ} {v : Value} {j : Nat} {f : List (κ × Value) → List Res} [hU : Und P t (.map kt et)] [hZ : Zer P et zv] [hM : MapAt rs b ek L f] [hK : KeyK P kt ek]
    (hx : ev fr x = some (.map (some b))) (hy : ev fr y = some (ek k)) (hd : Nat.blt d n = true) (hj : (lookI k L 0 = some (j, v) ∧ L' = L) ∨ (lookI k L 0 = none ∧ j = L.length ∧ v = zv ∧ L' = L ++ [(k, zv)]))
    (kk : ∀ rs', rs' = f L' → @G P ops Q n ds w0 rest ((d, .tuple #[v, .int .i64 (j : Int)]) :: fr) rs') : @G P ops Q n ds w0 (⟨some d, .mapEntry t x y, ty, pos, after, none⟩ :: rest) fr rs := by
  refine G.act hd fun a w pos after hf hw => ?_
  have hb := map_blk hM hw
  have hfd := hK.find k L w
  rcases hj with ⟨hl, rfl⟩ | ⟨hl, rfl, rfl, rfl⟩
  · obtain ⟨_, hget⟩ := lookI_some hl
    simp only [Nat.sub_zero] at hget
    have hlt := (List.getElem?_eq_some_iff.1 hget).1
    have he : (ents ek L' 0).toArray[j]? = some ⟨ek k, v, j⟩ := by
      rw [List.getElem?_toArray, ents_get, hget]; simp
    have hmod : ((ents ek L' 0).toArray.modify j fun e => { e with key := ek k }) = (ents ek L' 0).toArray := by
      apply Array.ext'
      simp only [Array.toList_modify, List.toList_toArray]
      apply List.ext_getElem?
      intro i
      rw [List.getElem?_modify]
      by_cases hij : j = i
      · subst hij
        have he' : (ents ek L' 0)[j]? = some ⟨ek k, v, j⟩ := by simpa using he
        rw [he']; simp
      · simp [hij]
    refine ⟨_, _, ?_, _, hw.upd (hM.upd L') fun l h => Holds.setMap (L' := L') h, kk _ rfl⟩
    have hks : (Instr.keyThatStays (ek k) (ek k)).run P w = .ok (ek k) w := by
      unfold Instr.keyThatStays
      rw [if_pos (hK.same k)]; rfl
    simp only [execOp, Instr.mapEntry, hf.ev hx, hf.ev hy, Sem.run_bind, run_underlying hU.und, Result.andThen_ok, getObj_run hb, hK.chk, Sem.run_pure, List.toList_toArray, hfd, hl, he, Option.map_some, Option.getD_some, hks, hmod, setObj_run _ hb]
    simp [goInt]
  · refine ⟨_, _, ?_, _, hw.upd (hM.upd (L ++ [(k, v)])) fun l h => Holds.setMap (L' := L ++ [(k, v)]) h, kk _ rfl⟩
    have hpush : (ents ek L 0).toArray.push ⟨ek k, v, L.length⟩ = (ents ek (L ++ [(k, v)]) 0).toArray := by
      rw [ents_app]; simp [ents]
    simp only [execOp, Instr.mapEntry, hf.ev hx, hf.ev hy, Sem.run_bind, run_underlying hU.und, Result.andThen_ok, getObj_run hb, hK.chk, Sem.run_pure, List.toList_toArray, hfd, hl, zeroValue_run hZ, hpush, setObj_run _ hb]
    simp [goInt]
theorem G.entryStore {b : Nat} {L : List (κ × Value)} {k : κ} {v u : Value} {j : Nat} {K0 : IntKind} {f : List (κ × Value) → List Res} [hM : MapAt rs b ek L f] (hx : ev fr x = some (.map (some b))) (hy : ev fr y = some (.int K0 (j : Int))) (hz : ev fr z = some u) (hj : L[j]? = some (k, v))
    (kk : ∀ rs', rs' = f (L.set j (k, u)) → @G P ops Q n ds w0 rest fr rs') : @G P ops Q n ds w0 (⟨none, .entryStore t x y z, ty, pos, after, none⟩ :: rest) fr rs := by
  refine G.actU (rs' := f (L.set j (k, u))) (fun a w pos after hf hw => ?_) (kk _ rfl)
  have hb := map_blk hM hw
  have hlt := (List.getElem?_eq_some_iff.1 hj).1
  have hfi : (ents ek L 0).toArray.findIdx? (fun e => (e.born : Int) == (j : Int)) = some j := by
    have := ents_find ek L 0 j hlt
    rw [Nat.zero_add] at this
    simpa using this
  have hset : ((ents ek L 0).toArray.modify j fun e => { e with val := u }) = (ents ek (L.set j (k, u)) 0).toArray := by
    rw [ents_set ek L 0 j k v u hj]
    apply Array.ext'
    simp
  refine ⟨_, ?_, hw.upd (hM.upd (L.set j (k, u))) fun l h => Holds.setMap (L' := L.set j (k, u)) h⟩
  have hlen : (L.set j (k, u)).length = L.length := by simp
  have hai : (asInt (.int K0 (j : Int))).run P w = .ok (j : Int) w := by simp [asInt, asIntOf]
  rw [hlen]
  simp only [execOp, Instr.entryStore, hf.ev hx, hf.ev hy, hf.ev hz, Sem.run_bind, Sem.run_pure, Result.andThen_ok, getObj_run hb, hai, hfi, hset, setObj_run _ hb]
end
/-- three bytes as a key -/
abbrev K3 := UInt8 × UInt8 × UInt8
def eK (x : K3) : Value := .agg (flat eB [x.1, x.2.1, x.2.2]).toArray
theorem flat_cell (l : List UInt8) : flat eB l = l.map Extern.Stop.cell := by
  induction l with
  | nil => rfl
  | cons a t ih => show eB a ++ flat eB t = _; rw [ih]; rfl
theorem eK_eq {P : Program} {kt e : TypeId} (hU : Und P kt (.array 3 e)) (hE : Und P e (.int .u8)) (hsz : ∀ w, (sizeOf e).run P w = .ok 1 w) (a b : K3) (w : World) : (Op.equal kt (eK a) (eK b)).run P w = .ok (decide (a = b)) w := by
  have := run_equalIn_bytes w 9998 kt e 3 hU.und hE.und hsz [a.1, a.2.1, a.2.2] [b.1, b.2.1, b.2.2] rfl rfl
  unfold Op.equal eK
  rw [flat_cell, flat_cell]
  rw [show Op.maxDepth = 9998 + 2 from rfl, this]
  congr 1
  obtain ⟨a1, a2, a3⟩ := a
  obtain ⟨b1, b2, b3⟩ := b
  rw [Bool.eq_iff_iff]
  simp
theorem eK_find {P : Program} {kt e : TypeId} (hU : Und P kt (.array 3 e)) (hE : Und P e (.int .u8)) (hsz : ∀ w, (sizeOf e).run P w = .ok 1 w) (k : K3) (w : World) : ∀ (L : List (K3 × Value)) (i : Nat), (Instr.findAsking kt (eK k) (ents eK L i) i).run P w = .ok (lookI k L i) w
  | [], i => by simp [ents, Instr.findAsking, lookI]
  | q :: t, i => by
    have h1 := eK_eq hU hE hsz k q.1 w
    have ih := eK_find hU hE hsz k w t (i + 1)
    simp only [ents, Instr.findAsking, Sem.run_bind, h1, Result.andThen_ok, lookI]
    by_cases hk : k = q.1
    · simp [hk]
    · simp only [hk, decide_false, Bool.false_eq_true, if_false]; exact ih
theorem eK_check {P : Program} {kt e : TypeId} (hU : Und P kt (.array 3 e)) (hE : Und P e (.int .u8)) (hsz : ∀ w, (sizeOf e).run P w = .ok 1 w) (em : Bool) (k : K3) (w : World) : (Instr.checkKey em 10000 kt (eK k)).run P w = .ok () w := by
  obtain ⟨a, b, c⟩ := k
  have hp : ∀ i (x : UInt8), (flat eB [a, b, c])[i]? = some (.int .u8 (x.toNat : Int)) → (part e (flat eB [a, b, c]).toArray (i * 1)).run P w = .ok (.int .u8 (x.toNat : Int)) w := fun i x hx => by
    simp [part, isAgg, run_underlying hE.und, hx]
  have hc : ∀ x : UInt8, (Instr.checkKey em 9999 e (.int .u8 (x.toNat : Int))).run P w = .ok () w := fun x => by
    rw [show 9999 = 9998 + 1 from rfl]
    unfold Instr.checkKey
    simp [run_underlying hE.und]
  rw [show 10000 = 9999 + 1 from rfl]
  unfold Instr.checkKey eK
  simp only [Sem.run_bind, run_underlying hU.und, Result.andThen_ok, Std.Legacy.Range.forIn_eq_forIn_range', Std.Legacy.Range.size, Nat.sub_zero, Nat.add_sub_cancel, Nat.div_one]
  simp only [List.range'_succ, List.range'_zero, List.forIn_cons, List.forIn_nil, Sem.run_bind, hsz, Result.andThen_ok, hp 0 a rfl, hp 1 b rfl, hp 2 c rfl, hc, Sem.run_pure]
theorem keyK {P : Program} {kt e : TypeId} (hU : Und P kt (.array 3 e)) (hE : Und P e (.int .u8)) (hsz : ∀ w, (sizeOf e).run P w = .ok 1 w) : KeyK P kt eK where
  chk := fun em k w => eK_check hU hE hsz em k w
  same := fun k => by
    obtain ⟨a, b, c⟩ := k
    simp [eK, flat, eB, Instr.sameBits]
  find := fun k L w => by
    unfold Instr.findKey
    cases L with
    | nil => simp [run_underlying hU.und, ents, Instr.findNow, lookI]
    | cons q t =>
      have h1 := eK_find hU hE hsz k w (q :: t) 0
      have hn : Instr.findNow (.array 3 e) (eK k) (ents eK (q :: t) 0) 0 = none := by simp [ents, Instr.findNow, Instr.sameNow]
      simp only [Sem.run_bind, run_underlying hU.und, Result.andThen_ok, hn]
      exact h1
end Go.Proofs.YtjfdpfjngajnlaaDoor
