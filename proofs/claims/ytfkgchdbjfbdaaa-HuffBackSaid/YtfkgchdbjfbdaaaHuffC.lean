/-
  CONTRACT of huff.Lengths, by the kit.
-/
import Derived.Test.YtfkgchdbjfbdaaaHuffB
namespace Go.Proofs.Ytfkgchdbjfbdaaa
open Go.RowKit
attribute [local irreducible] Ex G GC GE Gq FPost LPost
set_option linter.unusedVariables false
set_option linter.unusedSimpArgs false
namespace huff
theorem huff_perm {F F' : List HT} {t : HT} (h : Huff F t) (p : F.Perm F') : Huff F' t := by
  cases h with
  | one t =>
    have e := List.perm_singleton.1 p.symm
    rw [e]; exact .one t
  | two hp ha hb h => exact .two (p.symm.trans hp) ha hb h
def cN (C : List Int) (i : Nat) : Nat := (C.getD i default).toNat
abbrev leaves (C : List Int) (n : Nat) : List HT := (sup (cN C) n).map fun i => .leaf (cN C i) i
theorem nonneg_wr : ∀ (L : List (Nat × Nat × Nat)) (o : List Int), (∀ z ∈ o, (0 : Int) ≤ z) → ∀ z ∈ wr L o, (0 : Int) ≤ z
  | [], o, h => h
  | x :: L, o, h => nonneg_wr L _ fun z hz => by
    rcases List.mem_or_eq_of_mem_set hz with h' | rfl
    · exact h z h'
    · exact Int.natCast_nonneg _
theorem out_good {C : List Int} {n : Nat} {t : HT} (h : Huff (leaves C n) t) (h2 : 2 ≤ (sup (cN C) n).length) : Good (cN C) (fun i => ((wr (t.at_ 0) (List.replicate n (0 : Int))).getD i default).toNat) n := by
  have hs : (syms t).Perm ((sup (cN C) n).map fun i => (cN C i, i)) := by
    have := huff_syms h
    rw [List.flatMap_map] at this
    have e : (sup (cN C) n).flatMap (fun a => syms (.leaf (cN C a) a)) = (sup (cN C) n).map fun i => (cN C i, i) := by
      induction sup (cN C) n with
      | nil => rfl
      | cons x l ih => rw [List.flatMap_cons, ih]; rfl
    rw [e] at this
    exact this
  have hp : ((t.at_ 0).map fun x => x.2.1).Perm (sup (cN C) n) := by
    have := hs.map Prod.snd
    unfold syms at this
    rw [List.map_map, List.map_map] at this
    have e : (sup (cN C) n).map (Prod.snd ∘ fun i => (cN C i, i)) = sup (cN C) n := List.map_id' _
    rw [e] at this
    exact this
  have hlt : ∀ x ∈ t.at_ 0, x.2.1 < n := fun x hx => (mem_sup.1 (hp.mem_iff.1 (List.mem_map.2 ⟨x, hx, rfl⟩))).1
  have hin : ∀ x ∈ t.at_ 0, (wr (t.at_ 0) (List.replicate n (0 : Int))).getD x.2.1 0 = (x.2.2 : Int) := wr_in _ _ (hp.nodup_iff.2 sup_nodup) (fun x hx => by rw [List.length_replicate]; exact hlt x hx)
  refine good_of h h2 (fun i hi h0 => ?_) (fun x hx => ?_)
  · have : (wr (t.at_ 0) (List.replicate n (0 : Int))).getD i 0 = (List.replicate n (0 : Int)).getD i 0 := wr_out _ _ _ fun x hx e => by
      have := (mem_sup.1 (hp.mem_iff.1 (List.mem_map.2 ⟨x, hx, rfl⟩))).2
      rw [e, h0] at this; omega
    show ((wr (t.at_ 0) (List.replicate n (0 : Int))).getD i 0).toNat = 0
    rw [this, List.getD_eq_getElem?_getD, List.getElem?_replicate, if_pos hi]; rfl
  · show ((wr (t.at_ 0) (List.replicate n (0 : Int))).getD x.2.1 0).toNat = _
    rw [hin x hx]; rfl
theorem leaf_in {U : List El} {b c s : Nat} : ∀ f, (BlkP b 53 (tcells (.leaf c s) .nilIface .nilIface)).sat f → (Trees U).sat f → (Trees (U ++ [⟨b, .leaf c s⟩])).sat f := fun f h1 h2 x hx => by
  rcases List.mem_append.1 hx with h | h
  · exact h2 x h
  · rw [List.mem_singleton.1 h]; exact h1
theorem node_in {U : List El} {b : Nat} {x y : El} (hx : x ∈ U) (hy : y ∈ U) : ∀ f, (BlkP b 53 (tcells (.node x.t y.t) (ptr x.b) (ptr y.b))).sat f → (Trees U).sat f → (Trees (U ++ [⟨b, .node x.t y.t⟩])).sat f := fun f h1 h2 z hz => by
  rcases List.mem_append.1 hz with h | h
  · exact h2 z h
  · rw [List.mem_singleton.1 h]; exact ⟨x.b, y.b, h1, h2 x hx, h2 y hy⟩
theorem Holds.trNil {w0 w : World} {rs : List Res} (H : Holds w0 w rs) : Holds w0 w (.per (Trees []) :: rs) :=
  H.add rfl rfl rfl (Nat.le_refl _) (fun _ _ => rfl) Hp.nil (fun k o e => by cases e) (fun _ _ => rfl) fun f _ x hx => nomatch hx
theorem tr_sym {w0 : World} {rs : List Res} {U : List El} {x : El} {c s : Nat} (hm : .per (Trees U) ∈ rs) (hx : x ∈ U) (he : x.t = .leaf c s) : ∀ w, Holds w0 w rs → w.cell? (badr x.b (0 + 1)) = some (.int .i64 (s : Int)) := fun w H => by
  have h : (Trees U).sat (hp w) := H.at hm
  have h1 := h x hx
  rw [he] at h1
  exact cell_of_blk h1 rfl
theorem sum_two {l l' : List El} {x : El} (h : (x :: l').Perm l) : x.t.w + (l'.map fun x => x.t.w).sum = (l.map fun x => x.t.w).sum := by
  rw [← sum_perm (h.map fun x => x.t.w), List.map_cons, List.sum_cons]
/-- what is kept while trees are joined -/
structure Jn (C : List Int) (n : Nat) (l U : List El) : Prop where
  mem : ∀ x ∈ l, x ∈ U
  heap : Heapy leE l 0 l.length
  deep : ∀ x ∈ l, x.t.deep + l.length ≤ 64
  sum : (l.map fun x => x.t.w).sum ≤ 100000000
  huff : ∀ t, Huff (l.map (·.t)) t → Huff (leaves C n) t
  ne : leaves C n ≠ [] → l ≠ []
set_option maxHeartbeats 16000000 in
theorem hlengths_sp (r : Res) (ao : Option Addr) (n c : Nat) (C : List Int) (hl : C.length = n) (hn : n ≤ 64) [hR : RdR r ao n c 1 (flat (eI .i64) C)] (hC : ∀ z ∈ C, 0 ≤ z ∧ z ≤ 1048576) :
    Spec Try.prog 17 [.slice ao n c] [r] fun v give => ∃ (out : List Int) (oa : Option Addr) (oc : Nat), out.length = n ∧ (∀ z ∈ out, (0 : Int) ≤ z) ∧ Good (cN C) (fun i => (out.getD i default).toNat) n ∧ v = .tuple #[.slice oa n oc, .int .i64 0] ∧ give = [.vec 3 1 oa n oc (flat (eI .i64) out), r] := by
  have hC' : ∀ i, i < n → C.getD i default = ((cN C i : Nat) : Int) ∧ cN C i ≤ 1048576 := fun i hi => by
    have := hC _ (show C.getD i default ∈ C by rw [List.getD_eq_getElem?_getD, List.getElem?_eq_getElem (by omega)]; exact List.getElem_mem _)
    unfold cN; omega
  have hz0 : ∀ z ∈ List.replicate n (0 : Int), (0 : Int) ≤ z := fun z hz => by rw [List.eq_of_mem_replicate hz]; exact Int.le_refl _
  refine Spec.intro Try.func17 rfl Try.ntmps17 rfl fun w0 rest rs_ hrs_ => ?_
  simp only [List.cons_append, List.nil_append] at hrs_
  subst hrs_
  repeat (first | (apply G.ex (hd := rfl); case h => (first | exact Ex.move rfl | exact Ex.gtr rfl rfl | exact Ex.lenSl rfl | exact Ex.assign rfl)) | refine G.nil ?_ | refine GC.seq ?_ | refine GC.region ?_ | refine GC.block ?_ | refine GE.then_normal ?_ | refine GC.cond_no rfl (by first | assumption | omega) ?_)
  first | refine G.call (caps := []) (containsF_sp r ao n c C hl hn hC) rfl rfl rfl rfl (by repeat first | exact tn_ | apply td_ rfl | apply tc_ | exact .here | apply Take1.there) ?_ | refine G.callU (caps := []) (containsF_sp r ao n c C hl hn hC) rfl rfl rfl (by repeat first | exact tn_ | apply td_ rfl | apply tc_ | exact .here | apply Take1.there) ?_
  rintro v_ give_ ⟨rfl, rfl⟩ rs_ hrs_
  simp only [List.cons_append, List.nil_append] at hrs_
  subst hrs_
  repeat (first | (apply G.ex (hd := rfl); case h => (first | exact Ex.move rfl | exact Ex.lenSl rfl | exact Ex.assign rfl)) | refine G.nil ?_ | refine GC.seq ?_ | refine GC.region ?_ | refine GC.skip ?_ | refine GE.then_normal ?_ | refine GE.block_normal ?_ | refine GC.cond_f rfl ?_)
  refine G.make rfl rfl (by omega) rfl rfl (fun oa => ?_)
  rw [zrep_I]
  repeat (first | (apply G.ex (hd := rfl); case h => (first | exact Ex.assign rfl)) | refine G.nil ?_ | refine GC.seq ?_ | refine GC.region ?_ | refine GE.then_normal ?_)
  refine G.alloc rfl (fun bf => ?_)
  first | refine G.nilvec 50 1 ?_ | refine GC.nilvec 50 1 ?_
  refine G.conv (fun w_ H_ => Holds.trNil H_) ?_
  repeat (first | (apply G.ex (hd := rfl); case h => (first | exact Ex.move rfl | exact Ex.lenSl rfl)) | refine G.nil ?_ | refine GC.seq ?_ | refine GC.region ?_ | refine GC.block ?_ | refine GE.then_normal ?_)
  refine GC.loop (ι := Nat × List El × Option Addr × Nat) (fun x => x.1 ≤ n ∧ x.2.1.map (·.t) = leaves C x.1) (fun x => n - x.1) (fun x => [(0, .slice ao n c), (4, .slice oa n n), (5, ptr bf), (22, .slice ao n c), (23, .int .i64 (n : Int)), (24, .int .i64 (x.1 : Int))]) (fun x => [r, .vec 3 1 oa n n (flat (eI .i64) (List.replicate n (0 : Int))), FB bf x.2.2.1 x.2.1.length x.2.2.2, FV x.2.2.1 x.2.1.length x.2.2.2 x.2.1, .per (Trees x.2.1)]) (0, [], none, 0) ⟨Nat.zero_le _, rfl⟩ (by simp only [fits]; repeat (first | exact trivial | refine And.intro rfl ?_)) (by repeat first | exact tn_ | apply td_ rfl | apply tc_ | exact .here | apply Take1.there) ?_
  rintro ⟨i, l, fo, fc⟩ ⟨hi, hL⟩ fr_ rs_ hfr_ hrs_
  simp only [List.cons_append, List.nil_append] at hfr_ hrs_
  subst hfr_ hrs_
  simp only at hi hL
  have hll : l.length = (sup (cN C) i).length := by have := congrArg List.length hL; rwa [List.length_map, List.length_map] at this
  have hsl := sup_len (c := cN C) (n := i)
  repeat (first | (apply G.ex (hd := rfl); case h => (first | exact Ex.lss rfl rfl)) | refine G.nil ?_ | refine GC.seq ?_ | refine GC.region ?_ | refine GE.then_normal ?_)
  refine GC.cond_dec rfl (fun hlt => ?_) (fun hlt => ?_)
  · have hlt : i < n := by omega
    obtain ⟨hci, hcb⟩ := hC' i hlt
    repeat ((fail_if_success (refine GC.seq ?_; refine GC.region (id := 10) ?_)); first | (apply G.ex (hd := rfl); case h => (first | exact Ex.move rfl | exact Ex.indexN rfl rfl (by first | omega | (simp; done) | (simp; omega)) | exact Ex.loadT0 rfl (by first | omega | (simp; done) | (simp; omega)) rfl | exact Ex.assign rfl)) | refine G.nil ?_ | refine GC.seq ?_ | refine GC.region ?_ | refine GC.block ?_ | refine GC.skip ?_ | refine GE.then_normal ?_)
    rw [hci]
    by_cases h0 : cN C i = 0
    · have h0' : ¬ (0 : Int) < ((cN C i : Nat) : Int) := by omega
      have hL2 : l.map (·.t) = leaves C (i + 1) := by rw [hL]; unfold leaves; rw [sup, if_pos h0]
      repeat (first | (apply G.ex (hd := rfl); case h => (first | exact Ex.move rfl | exact Ex.add rfl rfl (by omega) | exact Ex.gtr rfl rfl)) | refine G.nil ?_ | refine GC.seq ?_ | refine GC.region ?_ | refine GC.skip ?_ | refine GE.then_normal ?_ | refine GE.block_normal ?_ | refine GC.cond_no rfl (by first | assumption | omega) ?_)
      rw [show (i : Int) + 1 = ((i + 1 : Nat) : Int) by omega]
      refine GE.loop (i + 1, l, fo, fc) ⟨by simp only; omega, hL2⟩ (by simp only; omega) (by simp only [fits]; repeat (first | exact trivial | refine And.intro rfl ?_)) (by repeat first | exact tn_ | apply td_ rfl | apply tc_ | exact .here | apply Take1.there) (by repeat (first | exact Subs.refl | refine Subs.skip ?_))
    · have h0' : (0 : Int) < ((cN C i : Nat) : Int) := by omega
      repeat (first | (apply G.ex (hd := rfl); case h => (first | exact Ex.move rfl | exact Ex.loadB rfl rfl | exact Ex.gtr rfl rfl | exact Ex.build rfl rfl)) | refine G.nil ?_ | refine GC.seq ?_ | refine GC.region ?_ | refine GE.then_normal ?_ | refine GC.cond_yes rfl (by first | assumption | omega) ?_)
      refine G.box (cs := tcells (.leaf (cN C i) i) .nilIface .nilIface) rfl rfl rfl fun b => ?_
      have hcat : flat ePt l ++ flat ePt [(⟨b, .leaf (cN C i) i⟩ : El)] = flat ePt (l ++ [⟨b, .leaf (cN C i) i⟩]) := (flat_append ..).symm
      have hL2 : (l ++ [(⟨b, .leaf (cN C i) i⟩ : El)]).map (·.t) = leaves C (i + 1) := by rw [List.map_append, hL]; unfold leaves; rw [sup, if_neg h0, List.map_append]; rfl
      have hlen2 : l.length + 1 = (l ++ [(⟨b, .leaf (cN C i) i⟩ : El)]).length := by rw [List.length_append]; rfl
      refine G.lit (cells := flat ePt [(⟨b, .leaf (cN C i) i⟩ : El)]) rfl (by rfl) (by rfl) (by rfl) (by rfl) (by rfl) (by rfl) rfl (fun q => ?_)
      refine G.app rfl rfl (by rfl) (by omega) rfl (hcat) (fun a2 c2 rs_ hrs_ => ?_)
      try simp only at hrs_
      subst hrs_
      refine G.conv (fun w_ H_ => Holds.frzB (H_.take (need := [.blk b 53 (tcells (.leaf (cN C i) i) .nilIface .nilIface)]) (by repeat first | exact tn_ | apply td_ rfl | apply tc_ | exact .here | apply Take1.there))) ?_
      try simp only [List.append_eq, List.nil_append, List.cons_append]
      refine G.conv (fun w_ H_ => per_join leaf_in (H_.take (need := [.per (BlkP b 53 (tcells (.leaf (cN C i) i) .nilIface .nilIface)), .per (Trees l)]) (by repeat first | exact tn_ | apply td_ rfl | apply tc_ | exact .here | apply Take1.there))) ?_
      try simp only [List.append_eq, List.nil_append, List.cons_append]
      rw [hlen2]
      repeat (first | refine G.storeB rfl rfl rfl rfl rfl ?_ | (apply G.ex (hd := rfl); case h => (first | exact Ex.move rfl | exact Ex.add rfl rfl (by omega))) | refine G.nil ?_ | refine GC.region ?_ | refine GE.then_normal ?_ | refine GE.block_normal ?_)
      rw [show (i : Int) + 1 = ((i + 1 : Nat) : Int) by omega]
      refine GE.loop (i + 1, l ++ [⟨b, .leaf (cN C i) i⟩], a2, c2) ⟨by simp only; omega, hL2⟩ (by simp only; omega) (by simp only [fits]; repeat (first | exact trivial | refine And.intro rfl ?_)) (by repeat first | exact tn_ | apply td_ rfl | apply tc_ | exact .here | apply Take1.there) (by repeat (first | exact Subs.refl | refine Subs.skip ?_))
  · obtain rfl : i = n := by omega
    clear hlt
    by_cases h1 : l.length = 1
    · have h1' : ((l.length : Nat) : Int) = 1 := by omega
      obtain ⟨x, rfl⟩ : ∃ x, l = [x] := List.length_eq_one_iff.1 h1
      obtain ⟨k, hk⟩ : ∃ k, sup (cN C) i = [k] := List.length_eq_one_iff.1 (by rw [← hll]; rfl)
      have hx : x.t = .leaf (cN C k) k := by
        have := hL; unfold leaves at this; rw [hk] at this
        exact (List.cons.inj this).1
      have hkn : k < i := (mem_sup.1 (by rw [hk]; exact List.mem_singleton.2 rfl)).1
      repeat (first | (apply G.ex (hd := rfl); case h => (first | exact Ex.move rfl | exact Ex.nilCheck rfl | exact Ex.fieldB rfl | exact Ex.loadB rfl rfl | exact Ex.eqI rfl rfl | exact Ex.lenSl rfl | exact Ex.indexN rfl rfl (by first | omega | (simp; done) | (simp; omega)) | exact Ex.loadT0 rfl (by first | omega | (simp; done) | (simp; omega)) rfl)) | refine G.nil ?_ | refine GC.seq ?_ | refine GC.region ?_ | refine GC.exit ?_ | refine GE.then_normal ?_ | refine GE.then_exit ?_ | refine GE.block_hit ?_ | refine GC.cond_yes rfl (by first | assumption | omega) ?_)
      refine G.ex (Ex.loadH rfl (tr_sym (U := [x]) (by simp) (List.mem_singleton.2 rfl) hx)) rfl ?_
      repeat (first | (apply G.ex (hd := rfl); case h => (first | exact Ex.indexN rfl rfl (by first | omega | (simp; done) | (simp; omega)))))
      first | refine G.storeT0 rfl rfl rfl rfl (by first | omega | (simp; omega)) rfl ((1 : Int)) (rfl) (fun rs_ hrs_ => ?_) | refine G.storeT rfl rfl rfl rfl (by first | omega | (simp; omega)) rfl ((1 : Int)) (rfl) (fun rs_ hrs_ => ?_) | refine G.storeTA rfl rfl (by first | omega | (simp; omega)) rfl ((1 : Int)) (rfl) (fun rs_ hrs_ => ?_)
      try simp only at hrs_
      subst hrs_
      repeat (first | (apply G.ex (hd := rfl); case h => (first | exact Ex.move rfl | exact Ex.assign rfl)) | refine G.nil ?_ | refine GC.seq ?_ | refine GC.region ?_ | refine GC.ret ?_ | refine GE.then_normal ?_ | refine GE.then_ret ?_)
      have hg : Good (cN C) (fun j => (((List.replicate i (0 : Int)).set k 1).getD j default).toNat) i := by
        have hat : ∀ j, ((List.replicate i (0 : Int)).set k 1).getD j default = if j = k then 1 else 0 := fun j => by
          rw [List.getD_eq_getElem?_getD, List.getElem?_set]
          by_cases e : k = j
          · rw [if_pos e, if_pos (by rw [List.length_replicate]; exact hkn), if_pos e.symm]; rfl
          · rw [if_neg e, if_neg (fun h => e h.symm), List.getElem?_replicate]
            split
            · rfl
            · rfl
        refine good_one hk (fun j hj hj0 => ?_) ?_
        · rw [hat, if_neg]; rfl
          intro e
          have := (mem_sup.1 (show k ∈ sup (cN C) i by rw [hk]; exact List.mem_singleton.2 rfl)).2
          rw [← e, hj0] at this; omega
        · rw [hat, if_pos rfl]; rfl
      refine GE.ret (by first | exact .inl rfl | exact .inr rfl) (res2 Try.results17 rfl rfl) ⟨(List.replicate i (0 : Int)).set k 1, oa, i, by rw [List.length_set, List.length_replicate], fun z hz => by rcases List.mem_or_eq_of_mem_set hz with h | rfl; exact hz0 z h; decide, hg, rfl, rfl⟩ (by repeat first | exact tn_ | apply td_ rfl | apply tc_ | exact .here | apply Take1.there) (by repeat (first | exact Subs.refl | refine Subs.skip ?_))
    · have h1' : ¬ ((l.length : Nat) : Int) = 1 := by omega
      have hmem0 : ∀ x ∈ l, x ∈ l := fun x hx => hx
      have hleaf : ∀ x ∈ l, x.t.deep = 0 ∧ x.t.w ≤ 1048576 := fun x hx => by
        have : x.t ∈ leaves C i := by rw [← hL]; exact List.mem_map.2 ⟨x, hx, rfl⟩
        obtain ⟨k, hk, e⟩ := List.mem_map.1 this
        rw [← e]
        exact ⟨rfl, (hC' k (mem_sup.1 hk).1).2⟩
      have hsum0 : ∀ m : List El, (∀ x ∈ m, x.t.w ≤ 1048576) → (m.map fun x => x.t.w).sum ≤ m.length * 1048576 := by
        intro m
        induction m with
        | nil => intro _; exact Nat.le_refl _
        | cons x m ih =>
          intro hm
          rw [List.map_cons, List.sum_cons, List.length_cons]
          have := ih fun y hy => hm y (List.mem_cons_of_mem _ hy)
          have := hm x (List.mem_cons_self ..)
          omega
      repeat (first | (apply G.ex (hd := rfl); case h => (first | exact Ex.loadB rfl rfl | exact Ex.eqI rfl rfl | exact Ex.lenSl rfl | exact Ex.mkIface rfl)) | refine G.nil ?_ | refine GC.seq ?_ | refine GC.region ?_ | refine GC.skip ?_ | refine GC.exit ?_ | refine GE.then_normal ?_ | refine GE.then_exit ?_ | refine GE.block_hit ?_ | refine GC.cond_no rfl (by first | assumption | omega) ?_)
      first | refine G.call (caps := []) (init_sp bf fo l.length fc l l rfl (by omega) hmem0) rfl rfl rfl rfl (by repeat first | exact tn_ | apply td_ rfl | apply tc_ | exact .here | apply Take1.there) ?_ | refine G.callU (caps := []) (init_sp bf fo l.length fc l l rfl (by omega) hmem0) rfl rfl rfl (by repeat first | exact tn_ | apply td_ rfl | apply tc_ | exact .here | apply Take1.there) ?_
      rintro v_ give_ ⟨l1, p1, hp1, rfl⟩ rs_ hrs_
      simp only [List.cons_append, List.nil_append] at hrs_
      subst hrs_
      have hJ : Jn C i l1 l := by
        have hlen := p1.length_eq
        refine ⟨fun x hx => p1.mem_iff.1 hx, by rw [hlen]; exact hp1, fun x hx => ?_, ?_, fun t ht => ?_, fun h e => ?_⟩
        · have := (hleaf x (p1.mem_iff.1 hx)).1; omega
        · rw [sum_perm (p1.map fun x => x.t.w)]
          have := hsum0 l fun x hx => (hleaf x hx).2
          omega
        · rw [← hL]; exact huff_perm ht (p1.map _)
        · rw [e] at p1
          have := p1.length_eq
          have h0 : l = [] := List.length_eq_zero_iff.1 (by rw [← this]; rfl)
          rw [h0] at hL
          exact h hL.symm
      rw [← p1.length_eq]
      have hll1 : l1.length ≤ 64 := by rw [p1.length_eq]; omega
      have hne1 : ¬ (leaves C i).length = 1 := by rw [← hL, List.length_map]; exact h1
      clear hp1 hsum0 hleaf hmem0 p1 hll hsl h1' h1 hL
      repeat (first | refine G.nil ?_ | refine GC.seq ?_ | refine GC.block ?_ | refine GE.then_normal ?_)
      refine GC.loop (ι := List El × List El × Option Addr × Nat) (fun x => Jn C i x.1 x.2.1 ∧ x.1.length ≤ 64) (fun x => x.1.length) (fun x => [(4, .slice oa i i), (5, ptr bf)]) (fun x => [r, .vec 3 1 oa i i (flat (eI .i64) (List.replicate i (0 : Int))), FB bf x.2.2.1 x.1.length x.2.2.2, FV x.2.2.1 x.1.length x.2.2.2 x.1, .per (Trees x.2.1)]) (l1, l, fo, fc) ⟨hJ, hll1⟩ (by simp only [fits]; repeat (first | exact trivial | refine And.intro rfl ?_)) (by repeat first | exact tn_ | apply td_ rfl | apply tc_ | exact .here | apply Take1.there) ?_
      clear hJ hll1
      rintro ⟨l2, U, go_, gc⟩ ⟨hJ, hl64⟩ fr_ rs_ hfr_ hrs_
      simp only [List.cons_append, List.nil_append] at hfr_ hrs_
      subst hfr_ hrs_
      simp only at hJ hl64
      by_cases hgt : 1 < l2.length
      · have hgt' : (1 : Int) < ((l2.length : Nat) : Int) := by omega
        obtain ⟨N, hN⟩ : ∃ N, l2.length = N + 2 := ⟨l2.length - 2, by omega⟩
        have hheap := hJ.heap
        rw [hN] at hheap hgt' ⊢
        repeat (first | (apply G.ex (hd := rfl); case h => (first | exact Ex.loadB rfl rfl | exact Ex.gtr rfl rfl | exact Ex.lenSl rfl)) | refine G.nil ?_ | refine GC.seq ?_ | refine GC.region ?_ | refine GC.block ?_ | refine GC.skip ?_ | refine GE.then_normal ?_ | refine GC.cond_yes rfl (by first | assumption | omega) ?_)
        refine GC.drawA [] [] (by repeat first | exact tn_ | apply td_ rfl | apply tc_ | exact .here | apply Take1.there) (by kernel_rfl) ?_
        first | (apply GA.take [] (hD := .inl rfl) (hsub := ⟨_, Takes.nil⟩) (i := 0) (hi := rfl) (hs := by kernel_rfl) (hfr := by kernel_rfl) (hr := by kernel_rfl) (hQ := np_) (hd := rfl); case hx => (first | exact Ex.mkIface rfl))
        first | (apply GA.take [] (hD := .inl rfl) (hsub := ⟨_, Takes.nil⟩) (i := 3) (hi := rfl) (hs := by kernel_rfl) (hfr := by kernel_rfl) (hr := by kernel_rfl) (hQ := np_) (hd := rfl); case hx => (first | exact Ex.mkIface rfl))
        refine GA.one (i := 1) (by kernel_rfl) rfl ?_
        first | refine G.call (caps := []) (hpop_sp bf go_ (N + 1) gc l2 U hN (by omega) hJ.mem hheap) rfl rfl rfl rfl (by repeat first | exact tn_ | apply td_ rfl | apply tc_ | exact .here | apply Take1.there) ?_ | refine G.callU (caps := []) (hpop_sp bf go_ (N + 1) gc l2 U hN (by omega) hJ.mem hheap) rfl rfl rfl (by repeat first | exact tn_ | apply td_ rfl | apply tc_ | exact .here | apply Take1.there) ?_
        rintro v_ give_ ⟨x, l3, ga, gd, rfl, hxU, px, lx, hl3, hp3, rfl⟩ rs_ hrs_
        simp only [List.cons_append, List.nil_append] at hrs_
        subst hrs_
        try refine G.nil ?_
        refine GA.back (by first | exact .inl (by decide) | exact .inr ⟨_, (by repeat first | exact tn_ | apply td_ rfl | apply tc_ | exact .here | apply Take1.there)⟩) ?_
        first | (apply GA.take [] (hD := .inl rfl) (hsub := ⟨_, Takes.nil⟩) (i := 2) (hi := rfl) (hs := by kernel_rfl) (hfr := by kernel_rfl) (hr := by kernel_rfl) (hQ := np_) (hd := rfl); case hx => (first | exact Ex.asOne rfl))
        refine GA.one (i := 4) (by kernel_rfl) rfl ?_
        first | refine G.call (caps := []) (hpop_sp bf ga N gd l3 U hl3 (by omega) (fun z hz => hJ.mem z (px.mem_iff.1 (List.mem_cons_of_mem _ hz))) hp3) rfl rfl rfl rfl (by repeat first | exact tn_ | apply td_ rfl | apply tc_ | exact .here | apply Take1.there) ?_ | refine G.callU (caps := []) (hpop_sp bf ga N gd l3 U hl3 (by omega) (fun z hz => hJ.mem z (px.mem_iff.1 (List.mem_cons_of_mem _ hz))) hp3) rfl rfl rfl (by repeat first | exact tn_ | apply td_ rfl | apply tc_ | exact .here | apply Take1.there) ?_
        rintro v_ give_ ⟨y, l4, ha, hd, rfl, hyU, py, ly, hl4, hp4, rfl⟩ rs_ hrs_
        simp only [List.cons_append, List.nil_append] at hrs_
        subst hrs_
        try refine G.nil ?_
        refine GA.back (by first | exact .inl (by decide) | exact .inr ⟨_, (by repeat first | exact tn_ | apply td_ rfl | apply tc_ | exact .here | apply Take1.there)⟩) ?_
        first | (apply GA.take [] (hD := .inl rfl) (hsub := ⟨_, Takes.nil⟩) (i := 5) (hi := rfl) (hs := by kernel_rfl) (hfr := by kernel_rfl) (hr := by kernel_rfl) (hQ := np_) (hd := rfl); case hx => (first | exact Ex.asOne rfl))
        first | (apply GA.take [] (hD := .inl rfl) (hsub := ⟨_, Takes.nil⟩) (i := 6) (hi := rfl) (hs := by kernel_rfl) (hfr := by kernel_rfl) (hr := by kernel_rfl) (hQ := np_) (hd := rfl); case hx => (first | exact Ex.assign rfl))
        first | (apply GA.take [] (hD := .inl rfl) (hsub := ⟨_, Takes.nil⟩) (i := 7) (hi := rfl) (hs := by kernel_rfl) (hfr := by kernel_rfl) (hr := by kernel_rfl) (hQ := np_) (hd := rfl); case hx => (first | exact Ex.assign rfl))
        refine GA.done (by kernel_rfl) ?_
        have hx2 : x ∈ l2 := px.mem_iff.1 (List.mem_cons_self ..)
        have hy2 : y ∈ l2 := px.mem_iff.1 (List.mem_cons_of_mem _ (py.mem_iff.1 (List.mem_cons_self ..)))
        have dx := hJ.deep x hx2
        have dy := hJ.deep y hy2
        have sx := sum_two px
        have sy := sum_two py
        have ss := hJ.sum
        repeat (first | refine GE.then_normal ?_)
        refine GC.drawA [] [.per (Trees U)] (by repeat first | exact tn_ | apply td_ rfl | apply tc_ | exact .here | apply Take1.there) (by kernel_rfl) ?_
        first | (apply GA.take [] (hD := .inl rfl) (hsub := ⟨_, Takes.nil⟩) (i := 0) (hi := rfl) (hs := by kernel_rfl) (hfr := by kernel_rfl) (hr := by kernel_rfl) (hQ := np_) (hd := rfl); case hx => (first | exact Ex.mkIface rfl))
        first | (apply GA.take [] (hD := .inl rfl) (hsub := ⟨_, Takes.nil⟩) (i := 1) (hi := rfl) (hs := by kernel_rfl) (hfr := by kernel_rfl) (hr := by kernel_rfl) (hQ := np_) (hd := rfl); case hx => (first | exact Ex.move rfl))
        first | (apply GA.take [] (hD := .inl rfl) (hsub := ⟨_, Takes.nil⟩) (i := 2) (hi := rfl) (hs := by kernel_rfl) (hfr := by kernel_rfl) (hr := by kernel_rfl) (hQ := np_) (hd := rfl); case hx => (first | exact Ex.nilCheck rfl))
        first | (apply GA.take [] (hD := .inl rfl) (hsub := ⟨_, Takes.nil⟩) (i := 3) (hi := rfl) (hs := by kernel_rfl) (hfr := by kernel_rfl) (hr := by kernel_rfl) (hQ := np_) (hd := rfl); case hx => (first | exact Ex.fieldB rfl))
        apply GA.take _ (hD := .inr ⟨rfl, by kernel_rfl⟩) (hsub := ⟨_, (by repeat first | exact tn_ | apply td_ rfl | apply tc_ | exact .here | apply Take1.there)⟩) (i := 4) (hi := rfl) (hs := by kernel_rfl) (hfr := by kernel_rfl) (hr := by kernel_rfl) (hQ := np_) (hd := rfl) (hx := (Ex.loadH rfl (tr_w (List.mem_cons_self ..) hxU)))
        first | (apply GA.take [] (hD := .inl rfl) (hsub := ⟨_, Takes.nil⟩) (i := 5) (hi := rfl) (hs := by kernel_rfl) (hfr := by kernel_rfl) (hr := by kernel_rfl) (hQ := np_) (hd := rfl); case hx => (first | exact Ex.move rfl))
        first | (apply GA.take [] (hD := .inl rfl) (hsub := ⟨_, Takes.nil⟩) (i := 6) (hi := rfl) (hs := by kernel_rfl) (hfr := by kernel_rfl) (hr := by kernel_rfl) (hQ := np_) (hd := rfl); case hx => (first | exact Ex.nilCheck rfl))
        first | (apply GA.take [] (hD := .inl rfl) (hsub := ⟨_, Takes.nil⟩) (i := 7) (hi := rfl) (hs := by kernel_rfl) (hfr := by kernel_rfl) (hr := by kernel_rfl) (hQ := np_) (hd := rfl); case hx => (first | exact Ex.fieldB rfl))
        apply GA.take _ (hD := .inr ⟨rfl, by kernel_rfl⟩) (hsub := ⟨_, (by repeat first | exact tn_ | apply td_ rfl | apply tc_ | exact .here | apply Take1.there)⟩) (i := 8) (hi := rfl) (hs := by kernel_rfl) (hfr := by kernel_rfl) (hr := by kernel_rfl) (hQ := np_) (hd := rfl) (hx := (Ex.loadH rfl (tr_w (List.mem_cons_self ..) hyU)))
        first | (apply GA.take [] (hD := .inl rfl) (hsub := ⟨_, Takes.nil⟩) (i := 9) (hi := rfl) (hs := by kernel_rfl) (hfr := by kernel_rfl) (hr := by kernel_rfl) (hQ := np_) (hd := rfl); case hx => (first | exact Ex.add rfl rfl (by omega)))
        first | (apply GA.take [] (hD := .inl rfl) (hsub := ⟨_, Takes.nil⟩) (i := 10) (hi := rfl) (hs := by kernel_rfl) (hfr := by kernel_rfl) (hr := by kernel_rfl) (hQ := np_) (hd := rfl); case hx => (first | exact Ex.move rfl))
        first | (apply GA.take [] (hD := .inl rfl) (hsub := ⟨_, Takes.nil⟩) (i := 11) (hi := rfl) (hs := by kernel_rfl) (hfr := by kernel_rfl) (hr := by kernel_rfl) (hQ := np_) (hd := rfl); case hx => (first | exact Ex.move rfl))
        first | (apply GA.take [] (hD := .inl rfl) (hsub := ⟨_, Takes.nil⟩) (i := 12) (hi := rfl) (hs := by kernel_rfl) (hfr := by kernel_rfl) (hr := by kernel_rfl) (hQ := np_) (hd := rfl); case hx => (first | exact Ex.buildArr rfl rfl))
        first | (apply GA.take [] (hD := .inl rfl) (hsub := ⟨_, Takes.nil⟩) (i := 13) (hi := rfl) (hs := by kernel_rfl) (hfr := by kernel_rfl) (hr := by kernel_rfl) (hQ := np_) (hd := rfl); case hx => (first | exact Ex.move rfl))
        first | (apply GA.take [] (hD := .inl rfl) (hsub := ⟨_, Takes.nil⟩) (i := 14) (hi := rfl) (hs := by kernel_rfl) (hfr := by kernel_rfl) (hr := by kernel_rfl) (hQ := np_) (hd := rfl); case hx => (first | exact Ex.nilCheck rfl))
        first | (apply GA.take [] (hD := .inl rfl) (hsub := ⟨_, Takes.nil⟩) (i := 15) (hi := rfl) (hs := by kernel_rfl) (hfr := by kernel_rfl) (hr := by kernel_rfl) (hQ := np_) (hd := rfl); case hx => (first | exact Ex.fieldB rfl))
        apply GA.take _ (hD := .inr ⟨rfl, by kernel_rfl⟩) (hsub := ⟨_, (by repeat first | exact tn_ | apply td_ rfl | apply tc_ | exact .here | apply Take1.there)⟩) (i := 16) (hi := rfl) (hs := by kernel_rfl) (hfr := by kernel_rfl) (hr := by kernel_rfl) (hQ := np_) (hd := rfl) (hx := (Ex.loadH rfl (tr_deep (List.mem_cons_self ..) hxU)))
        first | (apply GA.take [] (hD := .inl rfl) (hsub := ⟨_, Takes.nil⟩) (i := 17) (hi := rfl) (hs := by kernel_rfl) (hfr := by kernel_rfl) (hr := by kernel_rfl) (hQ := np_) (hd := rfl); case hx => (first | exact Ex.move rfl))
        first | (apply GA.take [] (hD := .inl rfl) (hsub := ⟨_, Takes.nil⟩) (i := 18) (hi := rfl) (hs := by kernel_rfl) (hfr := by kernel_rfl) (hr := by kernel_rfl) (hQ := np_) (hd := rfl); case hx => (first | exact Ex.nilCheck rfl))
        first | (apply GA.take [] (hD := .inl rfl) (hsub := ⟨_, Takes.nil⟩) (i := 19) (hi := rfl) (hs := by kernel_rfl) (hfr := by kernel_rfl) (hr := by kernel_rfl) (hQ := np_) (hd := rfl); case hx => (first | exact Ex.fieldB rfl))
        apply GA.take _ (hD := .inr ⟨rfl, by kernel_rfl⟩) (hsub := ⟨_, (by repeat first | exact tn_ | apply td_ rfl | apply tc_ | exact .here | apply Take1.there)⟩) (i := 20) (hi := rfl) (hs := by kernel_rfl) (hfr := by kernel_rfl) (hr := by kernel_rfl) (hQ := np_) (hd := rfl) (hx := (Ex.loadH rfl (tr_deep (List.mem_cons_self ..) hyU)))
        first | (apply GA.take [] (hD := .inl rfl) (hsub := ⟨_, Takes.nil⟩) (i := 21) (hi := rfl) (hs := by kernel_rfl) (hfr := by kernel_rfl) (hr := by kernel_rfl) (hQ := np_) (hd := rfl); case hx => (first | exact Ex.max rfl rfl))
        first | (apply GA.take [] (hD := .inl rfl) (hsub := ⟨_, Takes.nil⟩) (i := 22) (hi := rfl) (hs := by kernel_rfl) (hfr := by kernel_rfl) (hr := by kernel_rfl) (hQ := np_) (hd := rfl); case hx => (first | exact Ex.add rfl rfl (by omega)))
        rw [show max ((x.t.deep : Nat) : Int) ((y.t.deep : Nat) : Int) + 1 = ((max x.t.deep y.t.deep + 1 : Nat) : Int) by omega, show ((x.t.w : Nat) : Int) + ((y.t.w : Nat) : Int) = ((x.t.w + y.t.w : Nat) : Int) by omega]
        first | (apply GA.take [] (hD := .inl rfl) (hsub := ⟨_, Takes.nil⟩) (i := 23) (hi := rfl) (hs := by kernel_rfl) (hfr := by kernel_rfl) (hr := by kernel_rfl) (hQ := np_) (hd := rfl); case hx => (first | exact Ex.build rfl rfl))
        refine GA.one (i := 24) (by kernel_rfl) rfl ?_
        refine G.box (cs := tcells (.node x.t y.t) (ptr x.b) (ptr y.b)) rfl rfl rfl fun b => ?_
        refine G.conv (fun w_ H_ => Holds.frzB (H_.take (need := [.blk b 53 (tcells (.node x.t y.t) (ptr x.b) (ptr y.b))]) (by repeat first | exact tn_ | apply td_ rfl | apply tc_ | exact .here | apply Take1.there))) ?_
        try simp only [List.append_eq, List.nil_append, List.cons_append]
        refine G.conv (fun w_ H_ => per_join (node_in hxU hyU) (H_.take (need := [.per (BlkP b 53 (tcells (.node x.t y.t) (ptr x.b) (ptr y.b))), .per (Trees U)]) (by repeat first | exact tn_ | apply td_ rfl | apply tc_ | exact .here | apply Take1.there))) ?_
        try simp only [List.append_eq, List.nil_append, List.cons_append]
        try refine G.nil ?_
        refine GA.back (by first | exact .inl (by decide) | exact .inr ⟨_, (by repeat first | exact tn_ | apply td_ rfl | apply tc_ | exact .here | apply Take1.there)⟩) ?_
        first | (apply GA.take [] (hD := .inl rfl) (hsub := ⟨_, Takes.nil⟩) (i := 25) (hi := rfl) (hs := by kernel_rfl) (hfr := by kernel_rfl) (hr := by kernel_rfl) (hQ := np_) (hd := rfl); case hx => (first | exact Ex.mkIface rfl))
        refine GA.one (i := 26) (by kernel_rfl) rfl ?_
        first | refine G.call (caps := []) (hpush_sp bf ha N hd l4 (U ++ [⟨b, .node x.t y.t⟩]) ⟨b, .node x.t y.t⟩ hl4 (by omega) (fun z hz => List.mem_append_left _ (hJ.mem z (px.mem_iff.1 (List.mem_cons_of_mem _ (py.mem_iff.1 (List.mem_cons_of_mem _ hz)))))) (List.mem_append_right _ (List.mem_singleton.2 rfl)) hp4) rfl rfl rfl rfl (by repeat first | exact tn_ | apply td_ rfl | apply tc_ | exact .here | apply Take1.there) ?_ | refine G.callU (caps := []) (hpush_sp bf ha N hd l4 (U ++ [⟨b, .node x.t y.t⟩]) ⟨b, .node x.t y.t⟩ hl4 (by omega) (fun z hz => List.mem_append_left _ (hJ.mem z (px.mem_iff.1 (List.mem_cons_of_mem _ (py.mem_iff.1 (List.mem_cons_of_mem _ hz)))))) (List.mem_append_right _ (List.mem_singleton.2 rfl)) hp4) rfl rfl rfl (by repeat first | exact tn_ | apply td_ rfl | apply tc_ | exact .here | apply Take1.there) ?_
        rintro v_ give_ ⟨l5, ia, ic, p5, hp5, rfl⟩ rs_ hrs_
        simp only [List.cons_append, List.nil_append] at hrs_
        subst hrs_
        try refine G.nil ?_
        refine GA.back (by first | exact .inl (by decide) | exact .inr ⟨_, (by repeat first | exact tn_ | apply td_ rfl | apply tc_ | exact .here | apply Take1.there)⟩) ?_
        refine GA.done (by kernel_rfl) ?_
        have hl5 : l5.length = N + 1 := by rw [p5.length_eq, List.length_cons, hl4]
        have hJ2 : Jn C i l5 (U ++ [⟨b, .node x.t y.t⟩]) := by
          have in4 : ∀ z ∈ l4, z ∈ l2 := fun z hz => px.mem_iff.1 (List.mem_cons_of_mem _ (py.mem_iff.1 (List.mem_cons_of_mem _ hz)))
          refine ⟨fun z hz => ?_, by rw [hl5]; exact hp5, fun z hz => ?_, ?_, fun t ht => ?_, fun h e => ?_⟩
          · rcases List.mem_cons.1 (p5.mem_iff.1 hz) with rfl | h
            · exact List.mem_append_right _ (List.mem_singleton.2 rfl)
            · exact List.mem_append_left _ (hJ.mem z (in4 z h))
          · rw [hl5]
            rcases List.mem_cons.1 (p5.mem_iff.1 hz) with rfl | h
            · simp only [HT.deep]; omega
            · have := hJ.deep z (in4 z h); omega
          · rw [sum_perm (p5.map fun x => x.t.w), List.map_cons, List.sum_cons]
            simp only [HT.w]; omega
          · refine hJ.huff t ?_
            have h1 : Huff (HT.node x.t y.t :: l4.map (fun x : El => x.t)) t := huff_perm ht (p5.map (fun x : El => x.t))
            refine .two (a := x.t) (b := y.t) (R := l4.map (fun x : El => x.t)) ?_ (fun z hz => ?_) (fun z hz => ?_) h1
            · exact (px.map (fun x : El => x.t)).symm.trans ((py.map (fun x : El => x.t)).symm.cons x.t)
            · have : z ∈ l3.map (fun x : El => x.t) := (py.map (fun x : El => x.t)).mem_iff.1 hz
              obtain ⟨u, hu, rfl⟩ := List.mem_map.1 this
              exact leE_w (lx u hu)
            · obtain ⟨u, hu, rfl⟩ := List.mem_map.1 hz
              exact leE_w (ly u hu)
          · rw [e] at hl5; exact nomatch hl5
        rw [← hl5]
        repeat (first | refine GE.block_normal ?_)
        refine GE.loop (l5, U ++ [⟨b, .node x.t y.t⟩], ia, ic) ⟨hJ2, by simp only; omega⟩ (by simp only; omega) (by simp only [fits]; repeat (first | exact trivial | refine And.intro rfl ?_)) (by repeat first | exact tn_ | apply td_ rfl | apply tc_ | exact .here | apply Take1.there) (by repeat (first | exact Subs.refl | refine Subs.skip ?_))
      · have hgt' : ¬ (1 : Int) < ((l2.length : Nat) : Int) := by omega
        clear hl64
        match l2, hJ, hgt' with
        | [], hJ, hgt' =>
          have he : leaves C i = [] := by
            by_cases h : leaves C i = []
            · exact h
            · exact absurd rfl (hJ.ne h)
          have hs0 : sup (cN C) i = [] := List.map_eq_nil_iff.1 he
          have hg : Good (cN C) (fun j => ((List.replicate i (0 : Int)).getD j default).toNat) i := good_nil hs0 fun j hj _ => by
            rw [List.getD_eq_getElem?_getD, List.getElem?_replicate, if_pos hj]; rfl
          repeat (first | (apply G.ex (hd := rfl); case h => (first | exact Ex.move rfl | exact Ex.loadB rfl rfl | exact Ex.gtr rfl rfl | exact Ex.lenSl rfl)) | refine G.nil ?_ | refine GC.seq ?_ | refine GC.region ?_ | refine GC.block ?_ | refine GC.exit ?_ | refine GE.then_normal ?_ | refine GE.then_exit ?_ | refine GE.block_hit ?_ | refine GC.cond_no rfl (by first | assumption | omega) ?_)
          refine GC.loop (ι := Unit) (fun _ => True) (fun _ => 0) (fun _ => [(4, .slice oa i i), (90, .int .i64 0), (91, .int .i64 0)]) (fun _ => [r, .vec 3 1 oa i i (flat (eI .i64) (List.replicate i (0 : Int)))]) () trivial (by simp only [fits]; repeat (first | exact trivial | refine And.intro rfl ?_)) (by repeat first | exact tn_ | apply td_ rfl | apply tc_ | exact .here | apply Take1.there) ?_
          rintro ⟨⟩ hT fr_ rs_ hfr_ hrs_
          simp only [List.cons_append, List.nil_append] at hfr_ hrs_
          subst hfr_ hrs_
          repeat (first | (apply G.ex (hd := rfl); case h => (first | exact Ex.move rfl | exact Ex.lss rfl rfl | exact Ex.assign rfl)) | refine G.nil ?_ | refine GC.seq ?_ | refine GC.region ?_ | refine GC.ret ?_ | refine GC.exit ?_ | refine GE.then_normal ?_ | refine GE.then_exit ?_ | refine GE.block_hit ?_ | refine GC.cond_no rfl (by first | assumption | omega) ?_)
          refine GE.ret (by first | exact .inl rfl | exact .inr rfl) (res2 Try.results17 rfl rfl) ⟨List.replicate i (0 : Int), oa, i, List.length_replicate .., hz0, hg, rfl, rfl⟩ (by repeat first | exact tn_ | apply td_ rfl | apply tc_ | exact .here | apply Take1.there) (by repeat (first | exact Subs.refl | refine Subs.skip ?_))
        | [x], hJ, hgt' =>
          have hH : Huff (leaves C i) x.t := hJ.huff x.t (.one x.t)
          have h2 : 2 ≤ (sup (cN C) i).length := by
            have e0 : (leaves C i).length = (sup (cN C) i).length := List.length_map ..
            have : ¬ (leaves C i).length = 0 := fun h => by
              have h0 : leaves C i = [] := List.length_eq_zero_iff.1 h
              have := (huff_syms hH).length_eq
              rw [h0] at this
              have hd := deep_le x.t
              have this2 : (syms x.t).length = 0 := this
              omega
            omega
          have hg := out_good hH h2
          have hxU := hJ.mem x (List.mem_singleton.2 rfl)
          have hdx := hJ.deep x (List.mem_singleton.2 rfl)
          have hsy : ∀ p ∈ syms x.t, p.2 < i := fun p hp => by
            have := (huff_syms hH).mem_iff.1 hp
            obtain ⟨t, ht, hp'⟩ := List.mem_flatMap.1 this
            obtain ⟨k, hk, rfl⟩ := List.mem_map.1 ht
            have : p = (cN C k, k) := List.mem_singleton.1 hp'
            rw [this]; exact (mem_sup.1 hk).1
          repeat (first | (apply G.ex (hd := rfl); case h => (first | exact Ex.move rfl | exact Ex.loadB rfl rfl | exact Ex.gtr rfl rfl | exact Ex.lenSl rfl)) | refine G.nil ?_ | refine GC.seq ?_ | refine GC.region ?_ | refine GC.block ?_ | refine GC.exit ?_ | refine GE.then_normal ?_ | refine GE.then_exit ?_ | refine GE.block_hit ?_ | refine GC.cond_no rfl (by first | assumption | omega) ?_)
          refine GC.conv (fun w_ H_ => H_.derive (r := .per (Trees U)) (by simp) (.per (Trees [⟨x.b, x.t⟩])) fun f o' o'' h => fun q hq => by rw [List.mem_singleton.1 hq]; exact h x hxU) ?_
          refine GC.loop (ι := Nat) (fun k => k ≤ 1) (fun k => 1 - k) (fun k => [(4, .slice oa i i), (89, .slice go_ 1 gc), (90, .int .i64 1), (91, .int .i64 (k : Int))]) (fun k => [r, .vec 3 1 oa i i (flat (eI .i64) (if k = 0 then List.replicate i (0 : Int) else wr (x.t.at_ 0) (List.replicate i (0 : Int)))), FV go_ 1 gc [x], .per (Trees [⟨x.b, x.t⟩])]) 0 (Nat.zero_le _) (by simp only [fits]; repeat (first | exact trivial | refine And.intro rfl ?_)) (by repeat first | exact tn_ | apply td_ rfl | apply tc_ | exact .here | apply Take1.there) ?_
          rintro k hk fr_ rs_ hfr_ hrs_
          simp only [List.cons_append, List.nil_append] at hfr_ hrs_
          subst hfr_ hrs_
          have hk01 : k = 0 ∨ k = 1 := by omega
          rcases hk01 with rfl | rfl
          · repeat (first | (apply G.ex (hd := rfl); case h => (first | exact Ex.move rfl | exact Ex.lss rfl rfl | exact Ex.indexN rfl rfl (by first | omega | (simp; done) | (simp; omega)) | exact Ex.loadT0 rfl (by first | omega | (simp; done) | (simp; omega)) rfl | exact Ex.assign rfl)) | refine G.nil ?_ | refine GC.seq ?_ | refine GC.region ?_ | refine GC.block ?_ | refine GC.skip ?_ | refine GE.then_normal ?_ | refine GC.cond_yes rfl (by first | assumption | omega) ?_)
            first | refine G.call (caps := []) (lengths_sp oa i i hn x.t x.b 0 (List.replicate i (0 : Int)) (List.length_replicate ..) hsy (by simp only [List.length_cons, List.length_nil] at hdx; omega)) rfl rfl rfl rfl (by repeat first | exact tn_ | apply td_ rfl | apply tc_ | exact .here | apply Take1.there) ?_ | refine G.callU (caps := []) (lengths_sp oa i i hn x.t x.b 0 (List.replicate i (0 : Int)) (List.length_replicate ..) hsy (by simp only [List.length_cons, List.length_nil] at hdx; omega)) rfl rfl rfl (by repeat first | exact tn_ | apply td_ rfl | apply tc_ | exact .here | apply Take1.there) ?_
            rintro v_ give_ rfl rs_ hrs_
            simp only [List.cons_append, List.nil_append] at hrs_
            subst hrs_
            repeat (first | (apply G.ex (hd := rfl); case h => (first | exact Ex.move rfl | exact Ex.add rfl rfl (by omega))) | refine G.nil ?_ | refine GC.region ?_ | refine GE.then_normal ?_ | refine GE.block_normal ?_)
            refine GE.loop 1 (by decide) (by decide) (by simp only [fits]; repeat (first | exact trivial | refine And.intro rfl ?_)) (by repeat first | exact tn_ | apply td_ rfl | apply tc_ | exact .here | apply Take1.there) (by repeat (first | exact Subs.refl | refine Subs.skip ?_))
          · repeat (first | (apply G.ex (hd := rfl); case h => (first | exact Ex.move rfl | exact Ex.lss rfl rfl | exact Ex.assign rfl)) | refine G.nil ?_ | refine GC.seq ?_ | refine GC.region ?_ | refine GC.ret ?_ | refine GC.exit ?_ | refine GE.then_normal ?_ | refine GE.then_exit ?_ | refine GE.block_hit ?_ | refine GC.cond_no rfl (by first | assumption | omega) ?_)
            refine GE.ret (by first | exact .inl rfl | exact .inr rfl) (res2 Try.results17 rfl rfl) ⟨wr (x.t.at_ 0) (List.replicate i (0 : Int)), oa, i, by rw [wr_len, List.length_replicate], nonneg_wr _ _ hz0, hg, rfl, rfl⟩ (by repeat first | exact tn_ | apply td_ rfl | apply tc_ | exact .here | apply Take1.there) (by repeat (first | exact Subs.refl | refine Subs.skip ?_))
        | _ :: _ :: _, hJ, hgt' => exact absurd (by simp only [List.length_cons]; omega) hgt'
end huff
end Go.Proofs.Ytfkgchdbjfbdaaa
