/-
  CONTRACTS of huff.Lengths and what it calls, by the kit.
-/
import Derived.Test.YtfkgchdbjfbdaaaHuffA
import Derived.Test.YtfkgchdbjfbdaaaKit21
namespace Go.Proofs.Ytfkgchdbjfbdaaa
open Go.RowKit
section
variable {P : Program} {n : Nat} {w0 : World} {rs : List Res} {fr : Slots} {t ty : TypeId} {x : Operand} {Q : Exit → Act → World → Prop} {ds : List Deferred}
theorem Ex.loadHA {b j size bytes : Nat} {zs vs : List Value} [hA : Agg P t] [hI : Inf P t size bytes zs] (h : ev fr x = some (.pointer (some (badr b j)))) (hc : ∀ w, Holds w0 w rs → ∀ i v, vs[i]? = some v → w.cell? (badr b (j + i)) = some v) (hl : vs.length = size) : Ex P n w0 rs fr (.load t x) ty (.agg vs.toArray) :=
  fun a w dst pos after guard hf hw => by
    have := loadAgg_run hA hI (p := badr b j) (w := w) (cs := vs) hl (fun i v hv => by rw [badr_add]; exact hc w hw i v hv)
    simp [execOp, hf.ev h, this]
theorem Holds.deriveEx {w : World} {r : Res} {ι : Type} (H : Holds w0 w rs) (hr : r ∈ rs) (q : ι → Res) (h : ∀ f o, r.sat f o → ∃ z, ∀ o', (q z).sat f o') : ∃ z, Holds w0 w (q z :: rs) := by
  obtain ⟨h1, h2, h3, h4, f, l, rfl, hf, h0, hall, hpw⟩ := H
  obtain ⟨x, hx, rfl⟩ := List.mem_map.1 hr
  obtain ⟨z, hz⟩ := h _ _ (hall x hx).1
  refine ⟨z, h1, h2, h3, h4, f, (q z, Hp.nil) :: l, rfl, hf, h0, ?_, ?_⟩
  · intro y hy
    rcases List.mem_cons.1 hy with rfl | hy
    · exact ⟨hz _, fun k o e => (by cases e), fun k => .inr rfl⟩
    · exact hall y hy
  · exact List.pairwise_cons.2 ⟨fun y hy k => .inl rfl, hpw⟩
theorem GC.deriveEx {c : Code} {r : Res} {ι : Type} (hr : r ∈ rs) (q : ι → Res) (h : ∀ f o, r.sat f o → ∃ z, ∀ o', (q z).sat f o') (k : ∀ z, @GC P c Q n ds w0 fr (q z :: rs)) : @GC P c Q n ds w0 fr rs := fun a w hf hw => by
  obtain ⟨z, hz⟩ := hw.deriveEx hr q h
  exact k z a w hf hz
end
attribute [local irreducible] Ex G GC GE Gq FPost LPost
set_option linter.unusedVariables false
set_option linter.unusedSimpArgs false
theorem zrep_I : ∀ n, zrep [.int .i64 0] n = flat (eI .i64) (List.replicate n (0 : Int))
  | 0 => rfl
  | n + 1 => by
    rw [List.replicate_succ]
    show [Value.int .i64 0] ++ zrep [.int .i64 0] n = eI .i64 0 ++ flat (eI .i64) (List.replicate n (0 : Int))
    rw [zrep_I n]; rfl
namespace huff
/-- a node in a part of a heap -/
def NodeAt (b : Nat) (x y : HT) (z : Nat × Nat) : Pers where
  sat f := f b = some (.cells (tcells (.node x y) (ptr z.1) (ptr z.2)).toArray 53 (0, 0)) ∧ TA f x z.1 ∧ TA f y z.2
  mono := fun h hs => ⟨h _ _ hs.1, TA.mono h hs.2.1, TA.mono h hs.2.2⟩
theorem leaf_cell {w0 w : World} {rs : List Res} {b c s j : Nat} {v : Value} (hm : .per (Trees [⟨b, .leaf c s⟩]) ∈ rs) (H : Holds w0 w rs) (hv : (tcells (.leaf c s) .nilIface .nilIface)[j]? = some v) : w.cell? (badr b j) = some v := by
  have h : (Trees [⟨b, .leaf c s⟩]).sat (hp w) := H.at hm
  exact cell_of_blk (h _ (List.mem_singleton.2 rfl)) hv
theorem node_cell {w0 w : World} {rs : List Res} {b j bx by_ : Nat} {x y : HT} {v : Value} (hm : .per (NodeAt b x y (bx, by_)) ∈ rs) (H : Holds w0 w rs) (hv : (tcells (.node x y) (ptr bx) (ptr by_))[j]? = some v) : w.cell? (badr b j) = some v := by
  have h : (NodeAt b x y (bx, by_)).sat (hp w) := H.at hm
  exact cell_of_blk h.1 hv
def wr (L : List (Nat × Nat × Nat)) (o : List Int) : List Int := L.foldl (fun o x => o.set x.2.1 (x.2.2 : Int)) o
theorem wr_len : ∀ (L : List (Nat × Nat × Nat)) (o : List Int), (wr L o).length = o.length
  | [], o => rfl
  | x :: L, o => by show (wr L (o.set x.2.1 (x.2.2 : Int))).length = _; rw [wr_len L, List.length_set]
theorem wr_app (L M : List (Nat × Nat × Nat)) (o : List Int) : wr (L ++ M) o = wr M (wr L o) := List.foldl_append ..
theorem wr_out : ∀ (L : List (Nat × Nat × Nat)) (o : List Int) (i : Nat), (∀ x ∈ L, x.2.1 ≠ i) → (wr L o).getD i 0 = o.getD i 0
  | [], o, i, _ => rfl
  | x :: L, o, i, h => by
    show (wr L (o.set x.2.1 (x.2.2 : Int))).getD i 0 = _
    rw [wr_out L _ i (fun y hy => h y (List.mem_cons_of_mem _ hy)), List.getD_eq_getElem?_getD, List.getElem?_set_ne (h x (List.mem_cons_self ..)), List.getD_eq_getElem?_getD]
theorem wr_in : ∀ (L : List (Nat × Nat × Nat)) (o : List Int), (L.map fun x => x.2.1).Nodup → (∀ x ∈ L, x.2.1 < o.length) → ∀ x ∈ L, (wr L o).getD x.2.1 0 = (x.2.2 : Int)
  | y :: L, o, hn, hb, x, hx => by
    rw [List.map_cons, List.nodup_cons] at hn
    show (wr L (o.set y.2.1 (y.2.2 : Int))).getD x.2.1 0 = _
    rcases List.mem_cons.1 hx with rfl | hx
    · rw [wr_out L _ _ (fun z hz e => hn.1 (List.mem_map.2 ⟨z, hz, e⟩)), List.getD_eq_getElem?_getD, List.getElem?_set_self (hb x (List.mem_cons_self ..))]; rfl
    · exact wr_in L _ hn.2 (fun z hz => by rw [List.length_set]; exact hb z (List.mem_cons_of_mem _ hz)) x hx
theorem closure_sp (z : Int) (h : 0 ≤ z ∧ z ≤ 1048576) : Spec Try.prog 22 [.int .i64 z] [] fun v give => v = .bool false ∧ give = [] := by
  have h1 : ¬ z < 0 := by omega
  have h2 : ¬ 1048576 < z := by omega
  refine Spec.intro Try.func22 rfl Try.ntmps22 rfl fun w0 rest rs_ hrs_ => ?_
  simp only [List.cons_append, List.nil_append] at hrs_
  subst hrs_
  repeat (first | (apply G.ex (hd := rfl); case h => (first | exact Ex.move rfl | exact Ex.lss rfl rfl | exact Ex.gtr rfl rfl | exact Ex.assign rfl | exact Ex.pickF rfl (by first | assumption | omega) rfl)) | refine G.g_ff rfl rfl (by first | assumption | omega) ?_ | refine G.nil ?_ | refine GC.seq ?_ | refine GC.region ?_ | refine GC.ret ?_ | refine GE.then_normal ?_)
  refine GE.ret (by first | exact .inl rfl | exact .inr rfl) (res1 Try.results22 rfl) ⟨congrArg Value.bool (decide_eq_false h2), rfl⟩ (by repeat first | exact tn_ | apply td_ rfl | apply tc_ | exact .here | apply Take1.there) (by repeat (first | exact Subs.refl | refine Subs.skip ?_))
theorem indexF_sp (r : Res) (ao : Option Addr) (n c : Nat) (C : List Int) (hl : C.length = n) (hn : n ≤ 64) [hR : RdR r ao n c 1 (flat (eI .i64) C)] (hC : ∀ z ∈ C, 0 ≤ z ∧ z ≤ 1048576) :
    Spec Try.prog 28 [.slice ao n c, .func (.func 22) #[] #[]] [r] fun v give => v = .int .i64 (-1) ∧ give = [r] := by
  refine Spec.intro Try.func28 rfl Try.ntmps28 rfl fun w0 rest rs_ hrs_ => ?_
  simp only [List.cons_append, List.nil_append] at hrs_
  subst hrs_
  repeat (first | (apply G.ex (hd := rfl); case h => (first | exact Ex.move rfl | exact Ex.lenSl rfl | exact Ex.assign rfl)) | refine G.nil ?_ | refine GC.seq ?_ | refine GC.region ?_ | refine GC.block ?_ | refine GE.then_normal ?_)
  refine GC.loop (ι := Nat) (fun i => i ≤ n) (fun i => n - i) (fun i => [(0, .slice ao n c), (1, .func (.func 22) #[] #[]), (6, .slice ao n c), (7, .int .i64 (n : Int)), (8, .int .i64 (i : Int))]) (fun i => [r]) 0 (Nat.zero_le _) (by simp only [fits]; repeat (first | exact trivial | refine And.intro rfl ?_)) (by repeat first | exact tn_ | apply td_ rfl | apply tc_ | exact .here | apply Take1.there) ?_
  rintro i hi fr_ rs_ hfr_ hrs_
  simp only [List.cons_append, List.nil_append] at hfr_ hrs_
  subst hfr_ hrs_
  repeat (first | (apply G.ex (hd := rfl); case h => (first | exact Ex.lss rfl rfl)) | refine G.nil ?_ | refine GC.seq ?_ | refine GC.region ?_ | refine GE.then_normal ?_)
  refine GC.cond_dec rfl (fun hlt => ?_) (fun hlt => ?_)
  · have hlt' : i < n := by omega
    repeat (first | (apply G.ex (hd := rfl); case h => (first | exact Ex.move rfl | exact Ex.indexN rfl rfl (by first | omega | (simp; done) | (simp; omega)) | exact Ex.loadT0 rfl (by first | omega | (simp; done) | (simp; omega)) rfl | exact Ex.assign rfl)) | refine G.nil ?_ | refine GC.seq ?_ | refine GC.region ?_ | refine GC.block ?_ | refine GC.skip ?_ | refine GE.then_normal ?_)
    first | refine G.call (caps := []) (closure_sp (C.getD i default) (hC _ (by rw [List.getD_eq_getElem?_getD, List.getElem?_eq_getElem (by omega)]; exact List.getElem_mem _))) rfl rfl rfl rfl (by repeat first | exact tn_ | apply td_ rfl | apply tc_ | exact .here | apply Take1.there) ?_ | refine G.callU (caps := []) (closure_sp (C.getD i default) (hC _ (by rw [List.getD_eq_getElem?_getD, List.getElem?_eq_getElem (by omega)]; exact List.getElem_mem _))) rfl rfl rfl (by repeat first | exact tn_ | apply td_ rfl | apply tc_ | exact .here | apply Take1.there) ?_
    rintro v_ give_ ⟨rfl, rfl⟩ rs_ hrs_
    simp only [List.cons_append, List.nil_append] at hrs_
    subst hrs_
    repeat (first | (apply G.ex (hd := rfl); case h => (first | exact Ex.move rfl | exact Ex.add rfl rfl (by omega))) | refine G.nil ?_ | refine GC.region ?_ | refine GC.skip ?_ | refine GE.then_normal ?_ | refine GE.block_normal ?_ | refine GC.cond_f rfl ?_)
    rw [show (i : Int) + 1 = ((i + 1 : Nat) : Int) by omega]
    refine GE.loop (i + 1) (by omega) (by omega) (by simp only [fits]; repeat (first | exact trivial | refine And.intro rfl ?_)) (by repeat first | exact tn_ | apply td_ rfl | apply tc_ | exact .here | apply Take1.there) (by repeat (first | exact Subs.refl | refine Subs.skip ?_))
  · repeat (first | (apply G.ex (hd := rfl); case h => (first | exact Ex.assign rfl)) | refine G.nil ?_ | refine GC.seq ?_ | refine GC.region ?_ | refine GC.ret ?_ | refine GC.exit ?_ | refine GE.then_normal ?_ | refine GE.then_exit ?_ | refine GE.block_hit ?_)
    refine GE.ret (by first | exact .inl rfl | exact .inr rfl) (res1 Try.results28 rfl) ⟨rfl, rfl⟩ (by repeat first | exact tn_ | apply td_ rfl | apply tc_ | exact .here | apply Take1.there) (by repeat (first | exact Subs.refl | refine Subs.skip ?_))
theorem containsF_sp (r : Res) (ao : Option Addr) (n c : Nat) (C : List Int) (hl : C.length = n) (hn : n ≤ 64) [hR : RdR r ao n c 1 (flat (eI .i64) C)] (hC : ∀ z ∈ C, 0 ≤ z ∧ z ≤ 1048576) :
    Spec Try.prog 21 [.slice ao n c, .func (.func 22) #[] #[]] [r] fun v give => v = .bool false ∧ give = [r] := by
  refine Spec.intro Try.func21 rfl Try.ntmps21 rfl fun w0 rest rs_ hrs_ => ?_
  simp only [List.cons_append, List.nil_append] at hrs_
  subst hrs_
  repeat (first | (apply G.ex (hd := rfl); case h => (first | exact Ex.move rfl | exact Ex.assign rfl)) | refine G.nil ?_ | refine GC.seq ?_ | refine GC.region ?_ | refine GE.then_normal ?_)
  first | refine G.call (caps := []) (indexF_sp r ao n c C hl hn hC) rfl rfl rfl rfl (by repeat first | exact tn_ | apply td_ rfl | apply tc_ | exact .here | apply Take1.there) ?_ | refine G.callU (caps := []) (indexF_sp r ao n c C hl hn hC) rfl rfl rfl (by repeat first | exact tn_ | apply td_ rfl | apply tc_ | exact .here | apply Take1.there) ?_
  rintro v_ give_ ⟨rfl, rfl⟩ rs_ hrs_
  simp only [List.cons_append, List.nil_append] at hrs_
  subst hrs_
  repeat (first | (apply G.ex (hd := rfl); case h => (first | exact Ex.geq rfl rfl | exact Ex.assign rfl)) | refine G.nil ?_ | refine GC.ret ?_ | refine GE.then_normal ?_)
  refine GE.ret (by first | exact .inl rfl | exact .inr rfl) (res1 Try.results21 rfl) ⟨rfl, rfl⟩ (by repeat first | exact tn_ | apply td_ rfl | apply tc_ | exact .here | apply Take1.there) (by repeat (first | exact Subs.refl | refine Subs.skip ?_))
set_option maxHeartbeats 8000000 in
theorem lengths_sp (oa : Option Addr) (n oc : Nat) (hn : n ≤ 64) (t : HT) : ∀ (b d : Nat) (o : List Int), o.length = n → (∀ p ∈ syms t, p.2 < n) → d + t.deep ≤ 1000 →
    Spec Try.prog 26 [ptr b, .slice oa n oc, .int .i64 (d : Int)] [.per (Trees [⟨b, t⟩]), .vec 3 1 oa n oc (flat (eI .i64) o)] fun v give => give = [.vec 3 1 oa n oc (flat (eI .i64) (wr (t.at_ d) o))] := by
  induction t with
  | leaf c s =>
    intro b d o ho hs hd
    have hsn : s < n := hs (c, s) (List.mem_cons_self ..)
    refine Spec.intro Try.func26 rfl Try.ntmps26 rfl fun w0 rest rs_ hrs_ => ?_
    simp only [List.cons_append, List.nil_append] at hrs_
    subst hrs_
    repeat (first | (apply G.ex (hd := rfl); case h => (first | exact Ex.move rfl | exact Ex.nilCheck rfl | exact Ex.indexPB rfl rfl (by first | omega | (simp; done) | (simp; omega)) | exact Ex.fieldB rfl)) | refine GC.seq ?_ | refine GC.region ?_)
    refine G.ex (Ex.loadH rfl (fun w H => leaf_cell (c := c) (s := s) (List.mem_cons_self ..) H rfl)) rfl ?_
    repeat (first | (apply G.ex (hd := rfl); case h => (first | exact Ex.move rfl | exact Ex.nilCheck rfl | exact Ex.fieldB rfl | exact Ex.eqP0 rfl rfl)) | refine G.nil ?_ | refine GC.seq ?_ | refine GC.region ?_ | refine GE.then_normal ?_ | refine GC.cond_t rfl ?_)
    refine G.ex (Ex.loadH rfl (fun w H => leaf_cell (c := c) (s := s) (List.mem_cons_self ..) H rfl)) rfl ?_
    repeat (first | (apply G.ex (hd := rfl); case h => (first | exact Ex.move rfl | exact Ex.indexN rfl rfl (by first | omega | (simp; done) | (simp; omega)))))
    first | refine G.storeT0 rfl rfl rfl rfl (by first | omega | (simp; omega)) rfl (((d : Nat) : Int)) (rfl) (fun rs_ hrs_ => ?_) | refine G.storeT rfl rfl rfl rfl (by first | omega | (simp; omega)) rfl (((d : Nat) : Int)) (rfl) (fun rs_ hrs_ => ?_) | refine G.storeTA rfl rfl (by first | omega | (simp; omega)) rfl (((d : Nat) : Int)) (rfl) (fun rs_ hrs_ => ?_)
    try simp only at hrs_
    subst hrs_
    repeat (first | refine G.nil ?_ | refine GC.ret ?_ | refine GE.then_normal ?_ | refine GE.then_ret ?_)
    refine GE.ret (by first | exact .inl rfl | exact .inr rfl) (res0 Try.results26) rfl (by repeat first | exact tn_ | apply td_ rfl | apply tc_ | exact .here | apply Take1.there) (by repeat (first | exact Subs.refl | refine Subs.skip ?_))
  | node x y ihx ihy =>
    intro b d o ho hs hd
    have hsx : ∀ p ∈ syms x, p.2 < n := fun p hp => hs p (by rw [syms_node]; exact List.mem_append_left _ hp)
    have hsy : ∀ p ∈ syms y, p.2 < n := fun p hp => hs p (by rw [syms_node]; exact List.mem_append_right _ hp)
    simp only [HT.deep] at hd
    refine Spec.intro Try.func26 rfl Try.ntmps26 rfl fun w0 rest rs_ hrs_ => ?_
    simp only [List.cons_append, List.nil_append] at hrs_
    subst hrs_
    refine GC.deriveEx (r := .per (Trees [⟨b, .node x y⟩])) (List.mem_cons_self ..) (fun z => .per (NodeAt b x y z)) (fun f o' h => by
      obtain ⟨bx, by_, e1, e2, e3⟩ := h _ (List.mem_singleton.2 rfl)
      exact ⟨(bx, by_), fun _ => ⟨e1, e2, e3⟩⟩) fun z => ?_
    obtain ⟨bx, by_⟩ := z
    refine GC.conv (fun w_ H_ => H_.derive (r := .per (NodeAt b x y (bx, by_))) (List.mem_cons_self ..) (.per (Trees [⟨bx, x⟩])) fun f o' o'' h => fun q hq => by rw [List.mem_singleton.1 hq]; exact h.2.1) ?_
    refine GC.conv (fun w_ H_ => H_.derive (r := .per (NodeAt b x y (bx, by_))) (List.mem_cons_of_mem _ (List.mem_cons_self ..)) (.per (Trees [⟨by_, y⟩])) fun f o' o'' h => fun q hq => by rw [List.mem_singleton.1 hq]; exact h.2.2) ?_
    have hmem : ∀ {rs : List Res}, .per (NodeAt b x y (bx, by_)) ∈ (.per (Trees [⟨by_, y⟩]) :: .per (Trees [⟨bx, x⟩]) :: .per (NodeAt b x y (bx, by_)) :: rs : List Res) := fun {rs} => List.mem_cons_of_mem _ (List.mem_cons_of_mem _ (List.mem_cons_self ..))
    repeat (first | (apply G.ex (hd := rfl); case h => (first | exact Ex.move rfl | exact Ex.nilCheck rfl | exact Ex.indexPB rfl rfl (by first | omega | (simp; done) | (simp; omega)) | exact Ex.fieldB rfl)) | refine GC.seq ?_ | refine GC.region ?_)
    refine G.ex (Ex.loadH rfl (fun w H => node_cell hmem H rfl)) rfl ?_
    repeat (first | (apply G.ex (hd := rfl); case h => (first | exact Ex.move rfl | exact Ex.nilCheck rfl | exact Ex.fieldB rfl | exact Ex.eqP0 rfl rfl)) | refine G.nil ?_ | refine GC.seq ?_ | refine GC.region ?_ | refine GC.skip ?_ | refine GE.then_normal ?_ | refine GC.cond_f rfl ?_)
    refine G.ex (Ex.loadHA (vs := [ptr bx, ptr by_]) rfl (fun w H i v hv => by
      match i, hv with
      | 0, hv => exact node_cell hmem H hv
      | 1, hv => exact node_cell hmem H hv) rfl) rfl ?_
    repeat (first | (apply G.ex (hd := rfl); case h => (first | exact Ex.move rfl)) | refine G.nil ?_ | refine GC.block ?_ | refine GE.then_normal ?_)
    refine GC.loop (ι := Nat) (fun i => i ≤ 2) (fun i => 2 - i) (fun i => [(1, .slice oa n oc), (2, .int .i64 (d : Int)), (24, .agg [ptr bx, ptr by_].toArray), (25, .int .i64 (i : Int))]) (fun i => [.vec 3 1 oa n oc (flat (eI .i64) (if i = 0 then o else if i = 1 then wr (x.at_ (d + 1)) o else wr (y.at_ (d + 1)) (wr (x.at_ (d + 1)) o))), .per (Trees [⟨bx, x⟩]), .per (Trees [⟨by_, y⟩])]) 0 (Nat.zero_le _) (by simp only [fits]; repeat (first | exact trivial | refine And.intro rfl ?_)) (by repeat first | exact tn_ | apply td_ rfl | apply tc_ | exact .here | apply Take1.there) ?_
    rintro i hi fr_ rs_ hfr_ hrs_
    simp only [List.cons_append, List.nil_append] at hfr_ hrs_
    subst hfr_ hrs_
    have hc : i = 0 ∨ i = 1 ∨ i = 2 := by omega
    rcases hc with rfl | rfl | rfl
    · repeat (first | (apply G.ex (hd := rfl); case h => (first | exact Ex.lss rfl rfl)) | refine G.nil ?_ | refine GC.seq ?_ | refine GC.region ?_ | refine GC.block ?_ | refine GC.skip ?_ | refine GE.then_normal ?_ | refine GC.cond_yes rfl (by first | assumption | omega) ?_)
      refine G.ex (Ex.indexV (vs := [ptr bx, ptr by_]) (k := 0) (m := 2) rfl rfl rfl rfl (by decide)) rfl ?_
      repeat (first | (apply G.ex (hd := rfl); case h => (first | exact Ex.move rfl | exact Ex.add rfl rfl (by omega) | exact Ex.assign rfl)) | refine G.nil ?_ | refine GC.region ?_ | refine GE.then_normal ?_)
      rw [show (d : Int) + 1 = ((d + 1 : Nat) : Int) by omega]
      first | refine G.call (caps := []) (ihx bx (d + 1) o ho hsx (by omega)) rfl rfl rfl rfl (by repeat first | exact tn_ | apply td_ rfl | apply tc_ | exact .here | apply Take1.there) ?_ | refine G.callU (caps := []) (ihx bx (d + 1) o ho hsx (by omega)) rfl rfl rfl (by repeat first | exact tn_ | apply td_ rfl | apply tc_ | exact .here | apply Take1.there) ?_
      rintro v_ give_ rfl rs_ hrs_
      simp only [List.cons_append, List.nil_append] at hrs_
      subst hrs_
      repeat (first | (apply G.ex (hd := rfl); case h => (first | exact Ex.move rfl | exact Ex.add rfl rfl (by omega))) | refine G.nil ?_ | refine GC.region ?_ | refine GE.then_normal ?_ | refine GE.block_normal ?_)
      refine GE.loop 1 (by decide) (by decide) (by simp only [fits]; repeat (first | exact trivial | refine And.intro rfl ?_)) (by repeat first | exact tn_ | apply td_ rfl | apply tc_ | exact .here | apply Take1.there) (by repeat (first | exact Subs.refl | refine Subs.skip ?_))
    · repeat (first | (apply G.ex (hd := rfl); case h => (first | exact Ex.move rfl | exact Ex.add rfl rfl (by omega) | exact Ex.lss rfl rfl | exact Ex.assign rfl | exact Ex.indexV rfl rfl rfl rfl (by omega))) | refine G.nil ?_ | refine GC.seq ?_ | refine GC.region ?_ | refine GC.block ?_ | refine GC.skip ?_ | refine GE.then_normal ?_ | refine GC.cond_yes rfl (by first | assumption | omega) ?_)
      rw [show (d : Int) + 1 = ((d + 1 : Nat) : Int) by omega]
      first | refine G.call (caps := []) (ihy by_ (d + 1) (wr (x.at_ (d + 1)) o) (by rw [wr_len]; exact ho) hsy (by omega)) rfl rfl rfl rfl (by repeat first | exact tn_ | apply td_ rfl | apply tc_ | exact .here | apply Take1.there) ?_ | refine G.callU (caps := []) (ihy by_ (d + 1) (wr (x.at_ (d + 1)) o) (by rw [wr_len]; exact ho) hsy (by omega)) rfl rfl rfl (by repeat first | exact tn_ | apply td_ rfl | apply tc_ | exact .here | apply Take1.there) ?_
      rintro v_ give_ rfl rs_ hrs_
      simp only [List.cons_append, List.nil_append] at hrs_
      subst hrs_
      repeat (first | (apply G.ex (hd := rfl); case h => (first | exact Ex.move rfl | exact Ex.add rfl rfl (by omega))) | refine G.nil ?_ | refine GC.region ?_ | refine GE.then_normal ?_ | refine GE.block_normal ?_)
      refine GE.loop 2 (by decide) (by decide) (by simp only [fits]; repeat (first | exact trivial | refine And.intro rfl ?_)) (by repeat first | exact tn_ | apply td_ rfl | apply tc_ | exact .here | apply Take1.there) (by repeat (first | exact Subs.refl | refine Subs.skip ?_))
    · repeat (first | (apply G.ex (hd := rfl); case h => (first | exact Ex.lss rfl rfl)) | refine G.nil ?_ | refine GC.seq ?_ | refine GC.region ?_ | refine GC.exit ?_ | refine GE.then_normal ?_ | refine GE.then_exit ?_ | refine GE.block_hit ?_ | refine GC.cond_no rfl (by first | assumption | omega) ?_)
      refine GE.ret (by first | exact .inl rfl | exact .inr rfl) (res0 Try.results26) (by show _ = [Res.vec 3 1 oa n oc (flat (eI .i64) (wr (x.at_ (d + 1) ++ y.at_ (d + 1)) o))]; rw [wr_app]) (by repeat first | exact tn_ | apply td_ rfl | apply tc_ | exact .here | apply Take1.there) (by repeat (first | exact Subs.refl | refine Subs.skip ?_))
end huff
end Go.Proofs.Ytfkgchdbjfbdaaa
