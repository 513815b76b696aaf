/-
  THE KIT OF MY OWN, THIRTY-SECOND PART: pointers compared; a string as bytes and bytes as a string; many resources as one in a contract; three ready operations of a drawn region. Over any program; no condition.
-/
import Derived.Test.YtjfdpfjngajnlaaDoorKit29
import Derived.Test.YtjfdpfjngajnlaaDoorKit31
import Derived.Test.YtjfdpfjngajnlaaDoorKit18
import Derived.Test.YtjfdpfjngajnlaaDoorKit23
import Derived.Lib.ConvBytes
namespace Go.Proofs.YtjfdpfjngajnlaaDoor
open Go.RowKit Go.Sort
set_option linter.unusedVariables false
set_option linter.unusedSimpArgs false
section
variable {P : Program} {ops : Array Oper} {Q : Exit → Act → World → Prop} {n : Nat} {ds : List Deferred} {w0 : World} {rest : List Oper} {fr : Slots} {rs rs' : List Res} {ty t tx t' : TypeId} {x y z : Operand} {pos : String} {after : Array Edge}

theorem strOf_sOf (l : List UInt8) : strOf l = sOf l := by
  have h : ∀ (l : List UInt8) (b : ByteArray), (l.map fun x => (x.toNat : Int)).foldl (fun r n => r.push (UInt8.ofNat n.toNat)) b = b ++ sOf l := by
    intro l
    induction l with
    | nil => intro b; apply ByteArray.ext; simp [sOf]
    | cons a t ih =>
      intro b
      rw [List.map_cons, List.foldl_cons, ih]
      apply ByteArray.ext
      simp [sOf]
  have := h l ByteArray.empty
  rw [show strOf l = _ from this]
  apply ByteArray.ext
  simp [sOf]
/-- bytes as a string, also where there are none -/
theorem Ex.convBO {src dst e m c sz : Nat} {ao : Option Addr} {l : List UInt8} [hU : Und P src (.slice e)] [hE : Und P e (.int .u8)] [hV : Und P dst .string] (hx : ev fr x = some (.slice ao m c)) [hR : SlAt rs ao m c sz (flat eB l)] (hl : l.length = m) :
    Ex P n w0 rs fr (.convert src dst x) ty (.string (sOf l)) := by
  rw [← strOf_sOf]
  by_cases hm : 0 < m
  · exact Ex.convBS hx hl hm
  · obtain rfl : m = 0 := by omega
    obtain rfl : l = [] := List.eq_nil_of_length_eq_zero hl
    intro a w _ _ _ _ hf hw
    cases ao with
    | none =>
      simp only [execOp, hf.ev hx, Sem.run_bind, run_convert_bytes_string w src dst e none 0 c hU.und hE.und hV.und]
      rfl
    | some q =>
      have h2 := run_bytesToString (P := P) w q 0 c [] rfl
      simp only [execOp, hf.ev hx, Sem.run_bind, run_convert_bytes_string w src dst e (some q) 0 c hU.und hE.und hV.und, h2]
      rfl
/-- a string as bytes: a row that nobody writes -/
theorem G.convOB {d src dst e : Nat} {l : List UInt8} [hU : Und P src .string] [hV : Und P dst (.slice e)] [hE : Und P e (.int .u8)] (hx : ev fr x = some (.string (sOf l))) (hl : l.length ≤ maxLen) (hd : Nat.blt d n = true)
    (kk : ∀ ao c, @G P ops Q n ds w0 rest ((d, .slice ao l.length c) :: fr) (.sl ao l.length c 1 (flat eB l) :: rs)) : @G P ops Q n ds w0 (⟨some d, .convert src dst x, ty, pos, after, none⟩ :: rest) fr rs := by
  refine G.act hd fun a w pos after hf hw => ?_
  have hr := Lib.run_convert_string_bytes (P := P) w src dst e (sOf l) hU.und hV.und hE.und
  have hge := grownCap_ge w l.length 0 e
  have hcm : grownCap w l.length 0 e ≤ maxLen := grownCap_le_maxLen w l.length 0 e hl
  rw [sOf_size] at hr
  refine ⟨_, Lib.bytesWorld w e (sOf l), ?_, _, ?_, kk (some ⟨w.heap.size, 0, none⟩) (grownCap w l.length 0 e)⟩
  · simp only [execOp, hf.ev hx, Sem.run_bind, hr]; rfl
  · have hnew := Lib.bytesWorld_at_new w e (sOf l)
    have h1 : Holds w0 (Lib.bytesWorld w e (sOf l)) (.own ⟨fun _ o => o w.heap.size = some (.cells (Lib.bytesCells w e (sOf l)) e ((Lib.bytesCells w e (sOf l)).size, (Lib.bytesCells w e (sOf l)).size + 1)), fun _ ho h => ho _ _ h⟩ :: rs) :=
      hw.add rfl rfl rfl (by rw [Lib.bytesWorld_size]; omega) (fun k hk => Lib.bytesWorld_at_old w e (sOf l) k hk) (Hp.one w.heap.size _) (Hp.one_le hnew) (fun k hk => Hp.one_ne _ (by omega)) (fun f _ => Hp.one_self _ _)
    refine h1.freeze _ fun f o o' ho hd => ?_
    refine ⟨by rw [flat_len (inferInstance : Enc eB 1)], flat_one' (inferInstance : Enc eB 1) l, hge, hcm, fun h => (nomatch h), fun h0 => ⟨w.heap.size, 0, Lib.bytesCells w e (sOf l), e, ((Lib.bytesCells w e (sOf l)).size, (Lib.bytesCells w e (sOf l)).size + 1), rfl, Hp.le_or_right hd _ _ ho, fun j u hu => ?_⟩⟩
    · rw [flat_cell] at hu
      have hj : j < l.length := by
        have := (List.getElem?_eq_some_iff.1 hu).1
        simpa using this
      rw [Nat.zero_add]
      unfold Lib.bytesCells
      rw [Array.getElem?_append_left (by simpa [sOf] using hj)]
      rw [← hu]
      simp [sOf]
      rfl

theorem equal_ptr0 {e : TypeId} (hU : Und P t (.pointer e)) (a : Option Addr) (w : World) : (Op.equal t (.pointer a) (.pointer none)).run P w = .ok a.isNone w := by
  unfold Op.equal
  rw [show Op.maxDepth = 9999 + 1 from rfl]
  unfold Op.equalIn
  simp only [Sem.run_bind, run_underlying hU.und, Result.andThen_ok]
  cases a <;> simp
theorem Ex.eqP0 {e : TypeId} {a : Option Addr} [hU : Und P t (.pointer e)] (hx : ev fr x = some (.pointer a)) (hy : ev fr y = some (.pointer none)) : Ex P n w0 rs fr (.binOp .eql t x y t') ty (.bool a.isNone) :=
  fun _ w _ _ _ _ hf _ => by
    have := equal_ptr0 hU a w
    simp [execOp, hf.ev hx, hf.ev hy, binOp, eqGuard, this]
theorem Ex.neP0 {e : TypeId} {a : Option Addr} [hU : Und P t (.pointer e)] (hx : ev fr x = some (.pointer a)) (hy : ev fr y = some (.pointer none)) : Ex P n w0 rs fr (.binOp .neq t x y t') ty (.bool a.isSome) :=
  fun _ w _ _ _ _ hf _ => by
    have := equal_ptr0 hU a w
    cases a <;> simp [execOp, hf.ev hx, hf.ev hy, binOp, eqGuard, this]
theorem equal_ptrB {e b i j size bytes : Nat} {zs : List Value} (hU : Und P t (.pointer e)) (hI : Inf P e (size + 1) bytes zs) (w : World) : (Op.equal t (.pointer (some (badr b i))) (.pointer (some (badr b j)))).run P w = .ok (decide (i = j)) w := by
  unfold Op.equal
  rw [show Op.maxDepth = 9999 + 1 from rfl]
  unfold Op.equalIn
  simp only [Sem.run_bind, run_underlying hU.und, Result.andThen_ok, sizeOf_run hI, sameAddr, badr]
  by_cases h : i = j
  · subst h; simp
  · simp [h]
theorem Ex.nePB {e b i j size bytes : Nat} {zs : List Value} [hU : Und P t (.pointer e)] [hI : Inf P e (size + 1) bytes zs] (hx : ev fr x = some (.pointer (some (badr b i)))) (hy : ev fr y = some (.pointer (some (badr b j)))) : Ex P n w0 rs fr (.binOp .neq t x y t') ty (.bool (decide (¬ i = j))) :=
  fun _ w _ _ _ _ hf _ => by
    have := equal_ptrB (i := i) (j := j) (b := b) hU hI w
    simp [execOp, hf.ev hx, hf.ev hy, binOp, eqGuard, this]

theorem Holds.starOuts {w : World} : ∀ {l : List Res} {rs : List Res}, Holds w0 w (.own (Star l) :: rs) → Holds w0 w (l ++ rs)
  | [], rs, H => H.tail
  | r :: l, rs, H => by
    have h1 : Holds w0 w (.own (Star l) :: r :: rs) := H.starOut.perm (List.Perm.swap ..)
    exact (Holds.starOuts h1).perm List.perm_middle
theorem Holds.starIns {w : World} : ∀ {l : List Res} {rs : List Res}, Holds w0 w (l ++ rs) → Holds w0 w (.own (Star l) :: rs)
  | [], rs, H => Holds.starNil H
  | r :: l, rs, H => by
    have h1 : Holds w0 w (l ++ r :: rs) := H.perm List.perm_middle.symm
    have h2 : Holds w0 w (r :: .own (Star l) :: rs) := (Holds.starIns h1).perm (List.Perm.swap ..)
    exact h2.starIn
/-- a row that has room lies somewhere -/
theorem GC.someV {cd : Code} {ao : Option Addr} {m c e size : Nat} {xs : List Value} (hm : Res.vec e size ao m c xs ∈ rs) (h0 : 0 < c) (k : (∃ q, ao = some q) → @GC P cd Q n ds w0 fr rs) : @GC P cd Q n ds w0 fr rs := fun a w hf hw => by
  have h1 : rowIn (hp w) e size ao m c xs := hw.at hm
  obtain ⟨g, o, cur, h2, _⟩ := h1.addr h0
  exact k ⟨_, h2⟩ a w hf hw
theorem G.someV {ao : Option Addr} {m c e size : Nat} {xs : List Value} (hm : Res.vec e size ao m c xs ∈ rs) (h0 : 0 < c) (k : (∃ q, ao = some q) → @G P ops Q n ds w0 rest fr rs) : @G P ops Q n ds w0 rest fr rs := fun a w hf hw => by
  have h1 : rowIn (hp w) e size ao m c xs := hw.at hm
  obtain ⟨g, o, cur, h2, _⟩ := h1.addr h0
  exact k ⟨_, h2⟩ a w hf hw
theorem GE.nilvec {x : Exit} (e : TypeId) (size : Nat) (k : @GE Q x n ds w0 fr (.vec e size none 0 0 [] :: rs)) : @GE Q x n ds w0 fr rs := fun a w hf hw => k a w hf (hw.nilvec e size)
theorem GC.nilsl {cd : Code} (size : Nat) (k : @GC P cd Q n ds w0 fr (.sl none 0 0 size [] :: rs)) : @GC P cd Q n ds w0 fr rs := fun a w hf hw => k a w hf ((hw.nilvec 0 size).frz (VecFrz.here))
theorem G.nilsl (size : Nat) (k : @G P ops Q n ds w0 rest fr (.sl none 0 0 size [] :: rs)) : @G P ops Q n ds w0 rest fr rs := fun a w hf hw => k a w hf ((hw.nilvec 0 size).frz (VecFrz.here))
theorem GE.nilsl {x : Exit} (size : Nat) (k : @GE Q x n ds w0 fr (.sl none 0 0 size [] :: rs)) : @GE Q x n ds w0 fr rs := fun a w hf hw => k a w hf ((hw.nilvec 0 size).frz (VecFrz.here))
/-- one of the resources that are one -/
theorem Spec.star {f : FuncId} {args : List Value} {l need : List Res} {i : Nat} {r : Res} {post post' : Value → List Res → Prop} (hi : l[i]? = some r) (S : Spec P f args (r :: need) post)
    (h : ∀ v give, post v give → ∃ r' give', give = r' :: give' ∧ post' v (.own (Star (l.set i r')) :: give')) : Spec P f args (.own (Star l) :: need) post' := by
  obtain ⟨hlt, he⟩ := List.getElem?_eq_some_iff.1 hi
  intro w0 rest w H
  have h1 := Holds.starAt hlt H
  rw [he] at h1
  have h2 : Holds w0 w ((r :: need) ++ (.own (Star (l.eraseIdx i)) :: rest)) := by
    refine h1.perm ?_
    simp only [List.cons_append]
    exact (List.perm_middle.symm).cons r
  refine (S w0 _ w h2).mono ?_
  rintro e w' ⟨v, give, hp, hev, hh⟩
  obtain ⟨r', give', rfl, hp'⟩ := h v give hp
  refine ⟨v, _, hp', hev, ?_⟩
  have h3 : Holds w0 w' (r' :: .own (Star (l.eraseIdx i)) :: (give' ++ rest)) := by
    refine hh.perm ?_
    simp only [List.cons_append]
    exact (List.perm_middle).cons r'
  exact Holds.starBack hlt h3
theorem Spec.drop2 {f : FuncId} {args : List Value} {a x : Res} {need : List Res} {post : Value → List Res → Prop} (S : Spec P f args (a :: need) post) : Spec P f args (a :: x :: need) post :=
  fun w0 rest w H => S w0 rest w (by simp only [List.cons_append] at H ⊢; exact (H.perm (List.Perm.swap ..)).tail)
theorem Spec.keep2 {f : FuncId} {args : List Value} {a x : Res} {need : List Res} {post : Value → List Res → Prop} (S : Spec P f args (a :: need) post) : Spec P f args (a :: x :: need) (fun v give => ∃ g, post v g ∧ give = g ++ [x]) := by
  intro w0 rest w H
  have h2 : Holds w0 w ((a :: need) ++ (x :: rest)) := by
    refine H.perm ?_
    simp only [List.cons_append]
    exact (List.perm_middle.symm).cons a
  refine (S w0 _ w h2).mono ?_
  rintro e w' ⟨v, give, hp, hev, hh⟩
  exact ⟨v, _, ⟨give, hp, rfl⟩, hev, by rw [List.append_assoc]; exact hh⟩
/-- a whole datum in a variable's block -/
theorem Ex.loadWh {α : Type} {enc : α → List Value} {s b bytes T' : Nat} {zs : List Value} {q : α} [hA : Agg P t] [hI : Inf P t s bytes zs] [hE : Enc enc s] (h : ev fr x = some (.pointer (some (badr b 0)))) [hB : BlkAt rs b T' (enc q)] : Ex P n w0 rs fr (.load t x) ty (.agg (enc q).toArray) :=
  Ex.loadBA h (by rw [List.drop_zero, List.take_of_length_le (Nat.le_of_eq (hE.len q))]) (hE.len q)
theorem G.storeWh {α : Type} {enc : α → List Value} {s b bytes T' : Nat} {zs cs : List Value} {q : α} [hI : Inf P t s bytes zs] [hE : Enc enc s] (hx : ev fr x = some (.pointer (some (badr b 0)))) (hy : ev fr y = some (.agg (enc q).toArray)) (hu : Upd rs (.blk b T' cs) (.blk b T' (enc q)) rs') (hl : cs.length = s)
    (k : @G P ops Q n ds w0 rest fr rs') : @G P ops Q n ds w0 (⟨none, .store t x y, ty, pos, after, none⟩ :: rest) fr rs := by
  have e : cs.take 0 ++ enc q ++ cs.drop (0 + (enc q).length) = enc q := by
    rw [List.take_zero, List.nil_append, Nat.zero_add, hE.len, ← hl, List.drop_length, List.append_nil]
  rw [← e] at hu
  exact G.storeBA (vs := enc q) (cs := cs) (hB := ⟨⟨T', hu⟩⟩) hx hy (hE.len q) (List.all_eq_true.2 (hE.one q)) (by rw [hE.len, hl]; simp) k
/-- a contract whose resources are one -/
theorem Spec.pack {f : FuncId} {args : List Value} {l need : List Res} {post post' : Value → List Res → Prop} (S : Spec P f args (l ++ need) post)
    (h : ∀ v give, post v give → ∃ l' give', give = l' ++ give' ∧ post' v (.own (Star l') :: give')) : Spec P f args (.own (Star l) :: need) post' := by
  intro w0 rest w H
  refine (S w0 rest w ?_).mono ?_
  · rw [List.append_assoc]; exact H.starOuts
  · rintro e w' ⟨v, give, hp, he, hh⟩
    obtain ⟨l', give', rfl, hp'⟩ := h v give hp
    rw [List.append_assoc] at hh
    exact ⟨v, _, hp', he, hh.starIns⟩
/-- resources told otherwise, ahead of a call and behind it -/
theorem Spec.conv {f : FuncId} {args : List Value} {need need' : List Res} {post post' : Value → List Res → Prop} (S : Spec P f args need post) (hn : ∀ {w0 w rest}, Holds w0 w (need' ++ rest) → Holds w0 w (need ++ rest))
    (h : ∀ v give, post v give → ∃ give', post' v give' ∧ ∀ {w0 w rest}, Holds w0 w (give ++ rest) → Holds w0 w (give' ++ rest)) : Spec P f args need' post' := by
  intro w0 rest w H
  refine (S w0 rest w (hn H)).mono ?_
  rintro e w' ⟨v, give, hp, he, hh⟩
  obtain ⟨give', hp', hg⟩ := h v give hp
  exact ⟨v, give', hp', he, hg hh⟩
end
section
variable {P : Program} {ops : Array Oper} {T : List Nat} {rc : List Res} {Q : Exit → Act → World → Prop} {n : Nat} {ds : List Deferred} {w0 : World} {fuel : Nat} {listed : Array Bool} {fr : Slots} {rs : List Res}
/-- whatever is ready next -/
theorem GA.many {l : List Nat} (hr : Region.ready .any ops listed = l) (hl : l ≠ []) (h : ∀ i ∈ l, ∃ o, ops[i]? = some o ∧ @G P ops (Exit.then (GAk P ops T rc Q w0 fuel listed i) Q) n ds w0 [o] fr rs) : @GA P ops T rc Q n ds w0 (fuel + 1) listed fr rs := by
  intro a w hf hw
  refine ⟨fun h0 => absurd (hr ▸ h0) hl, fun m hm => ?_⟩
  rw [hr] at hm
  obtain ⟨o, ho, k⟩ := h m hm
  exact GA.op ho k hf hw
theorem GA.three {i j k : Nat} {o o' o'' : Oper} (hr : Region.ready .any ops listed = [i, j, k]) (ho : ops[i]? = some o) (ho' : ops[j]? = some o') (ho'' : ops[k]? = some o'') (h : @G P ops (Exit.then (GAk P ops T rc Q w0 fuel listed i) Q) n ds w0 [o] fr rs) (h' : @G P ops (Exit.then (GAk P ops T rc Q w0 fuel listed j) Q) n ds w0 [o'] fr rs) (h'' : @G P ops (Exit.then (GAk P ops T rc Q w0 fuel listed k) Q) n ds w0 [o''] fr rs) : @GA P ops T rc Q n ds w0 (fuel + 1) listed fr rs := by
  refine GA.many hr (by simp) fun m hm => ?_
  rcases List.mem_cons.1 hm with rfl | hm
  · exact ⟨_, ho, h⟩
  · rcases List.mem_cons.1 hm with rfl | hm
    · exact ⟨_, ho', h'⟩
    · obtain rfl : m = k := by simpa using hm
      exact ⟨_, ho'', h''⟩
/-- fewer slots, fewer resources -/
theorem GA.cut {fr' : Slots} {rs' rs'' : List Res} (h : @GA P ops T rc Q n ds w0 fuel listed fr' (rs' ++ rs'')) (hf : fits fr' fr) (ht : Takes rs rs' rs'') : @GA P ops T rc Q n ds w0 fuel listed fr rs :=
  fun a w hfr hw => h a w (hfr.sub hf) (hw.take ht)
end
end Go.Proofs.YtjfdpfjngajnlaaDoor
