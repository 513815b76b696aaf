/-
  CONTRACT of slices.insertionSortCmpFunc, by the kit.
-/
import Derived.Test.YtfkgchdbjfbdaaaSortQ
import Derived.Test.YtfkgchdbjfbdaaaSortA
namespace Go.Proofs.Ytfkgchdbjfbdaaa
open Go.RowKit
set_option linter.unusedVariables false
set_option linter.unusedSimpArgs false
section
variable {P : Program} {n : Nat} {w0 : World} {rs : List Res} {fr : Slots} {t t' ty : TypeId} {x y : Operand}
theorem Ex.convU {src dst : TypeId} {k kk : IntKind} {a : Int} [hU : Und P src (.int kk)] [hV : Und P dst (.int .u64)] (hx : ev fr x = some (.int k a)) (h : 0 ≤ a ∧ a ≤ 9223372036854775807) : Ex P n w0 rs fr (.convert src dst x) ty (.int .u64 a) := by
  have := Ex.conv (P := P) (n := n) (w0 := w0) (rs := rs) (ty := ty) (src := src) (dst := dst) hx
  rwa [show IntKind.u64.wrap a = a by rw [IntKind.wrap_u64]; omega] at this
theorem Ex.shr1u {a : Int} {K : IntKind} (hx : ev fr x = some (.int .u64 a)) (hy : ev fr y = some (.int K 1)) : Ex P n w0 rs fr (.binOp .shr t x y t') ty (.int .u64 (a / 2)) :=
  fun _ w _ _ _ _ hf _ => by simp [execOp, hf.ev hx, hf.ev hy, binOp, eqGuard, Op.shift, IntKind.bits, fdiv_pos]
end
attribute [local irreducible] Ex G GC GE Gq FPost LPost
set_option linter.unusedVariables false
set_option linter.unusedSimpArgs false
namespace sort
theorem at_eN {D : List Nat} {i : Nat} {y : Nat} (hi : i < D.length) (h : D.getD i default = y) : (flat eN D)[i * 1 + 0]? = some (.int .i64 (y : Int)) := by
  rw [← h]; exact flat_at (inferInstance : Enc eN 1) D i 0 hi (by decide)
set_option maxHeartbeats 16000000 in
theorem insertion_sp (kb : Nat) (la : Option Addr) (ln lc : Nat) (Ls : List Int) (hl : Ls.length = ln) (da : Option Addr) (dc : Nat) (P X Q : List Nat) (a b N : Nat) (ha : P.length = a) (hb : a + X.length = b) (hN : (P ++ (X ++ Q)).length = N) (hN2 : N ≤ 1000000) (hX : X.Pairwise (· < ·)) (hin : ∀ x ∈ X, x < ln) :
    Spec Try.prog 36 [.slice da N dc, .int .i64 (a : Int), .int .i64 (b : Int), cmpV kb] [DR da N dc (P ++ (X ++ Q)), KB kb la ln lc, LS la ln lc Ls] fun v give => ∃ W, W.Perm X ∧ Srt (key Ls) W ∧ give = [DR da N dc (P ++ (W ++ Q)), KB kb la ln lc] := by
  have hbN : b ≤ N := by simp only [List.length_append] at hN; omega
  cases X with
  | nil =>
    refine Spec.intro Try.func36 rfl Try.ntmps36 rfl fun w0 rest rs_ hrs_ => ?_
    simp only [List.cons_append, List.nil_append] at hrs_
    subst hrs_
    repeat (first | (apply G.ex (hd := rfl); case h => (first | exact Ex.move rfl | exact Ex.add rfl rfl (by omega) | exact Ex.assign rfl)) | refine G.nil ?_ | refine GC.seq ?_ | refine GC.region ?_ | refine GC.block ?_ | refine GE.then_normal ?_)
    rw [show (a : Int) + 1 = ((a + 1 : Nat) : Int) by omega]
    refine GC.loop (ι := Unit) (fun _ => True) (fun _ => 0) (fun _ => [(2, .int .i64 (b : Int)), (8, .int .i64 ((a + 1 : Nat) : Int))]) (fun _ => [DR da N dc (P ++ ([] ++ Q)), KB kb la ln lc]) () trivial (by simp only [fits]; repeat (first | exact trivial | refine And.intro rfl ?_)) (by repeat first | exact tn_ | apply td_ rfl | apply tc_ | exact .here | apply Take1.there) ?_
    rintro _ _ fr_ rs_ hfr_ hrs_
    simp only [List.cons_append, List.nil_append] at hfr_ hrs_
    subst hfr_ hrs_
    have c : ¬ ((a + 1 : Nat) : Int) < (b : Int) := by simp only [List.length_nil] at hb; omega
    repeat (first | (apply G.ex (hd := rfl); case h => (first | exact Ex.move rfl | exact Ex.lss rfl rfl)) | refine G.nil ?_ | refine GC.seq ?_ | refine GC.region ?_ | refine GC.exit ?_ | refine GE.then_normal ?_ | refine GE.then_exit ?_ | refine GE.block_hit ?_ | refine GC.cond_no rfl (by first | assumption | omega) ?_)
    refine GE.ret (by first | exact .inl rfl | exact .inr rfl) (res0 Try.results36) ⟨[], .refl _, List.Pairwise.nil, rfl⟩ (by repeat first | exact tn_ | apply td_ rfl | apply tc_ | exact .here | apply Take1.there) (by repeat (first | exact Subs.refl | refine Subs.skip ?_))
  | cons x0 X' =>
    refine Spec.intro Try.func36 rfl Try.ntmps36 rfl fun w0 rest rs_ hrs_ => ?_
    simp only [List.cons_append, List.nil_append] at hrs_
    subst hrs_
    repeat (first | (apply G.ex (hd := rfl); case h => (first | exact Ex.move rfl | exact Ex.add rfl rfl (by omega) | exact Ex.assign rfl)) | refine G.nil ?_ | refine GC.seq ?_ | refine GC.region ?_ | refine GC.block ?_ | refine GE.then_normal ?_)
    rw [show (a : Int) + 1 = ((a + 1 : Nat) : Int) by omega]
    refine GC.loop (ι := List Nat × List Nat) (fun x => Ins (key Ls) a b (x0 :: X') x.1 x.2) (fun x => x.2.length) (fun x => [(0, .slice da N dc), (1, .int .i64 (a : Int)), (2, .int .i64 (b : Int)), (3, cmpV kb), (8, .int .i64 ((a + x.1.length : Nat) : Int))]) (fun x => [DR da N dc (P ++ ((x.1 ++ x.2) ++ Q)), KB kb la ln lc, LS la ln lc Ls]) ([x0], X') (Ins.start hX hb) (by simp only [fits]; repeat (first | exact trivial | refine And.intro rfl ?_)) (by repeat first | exact tn_ | apply td_ rfl | apply tc_ | exact .here | apply Take1.there) ?_
    rintro ⟨W1, X2⟩ hI fr_ rs_ hfr_ hrs_
    simp only [List.cons_append, List.nil_append] at hfr_ hrs_
    subst hfr_ hrs_
    simp only at hI
    have hlen := hI.len
    cases X2 with
    | nil =>
      have c : ¬ ((a + W1.length : Nat) : Int) < (b : Int) := by simp only [List.length_nil] at hlen; omega
      have hp := hI.perm
      have hs := hI.srt
      rw [List.append_nil] at hp
      rw [List.append_nil]
      repeat (first | (apply G.ex (hd := rfl); case h => (first | exact Ex.move rfl | exact Ex.lss rfl rfl)) | refine G.nil ?_ | refine GC.seq ?_ | refine GC.region ?_ | refine GC.exit ?_ | refine GE.then_normal ?_ | refine GE.then_exit ?_ | refine GE.block_hit ?_ | refine GC.cond_no rfl (by first | assumption | omega) ?_)
      refine GE.ret (by first | exact .inl rfl | exact .inr rfl) (res0 Try.results36) ⟨W1, hp, hs, rfl⟩ (by repeat first | exact tn_ | apply td_ rfl | apply tc_ | exact .here | apply Take1.there) (by repeat (first | exact Subs.refl | refine Subs.skip ?_))
    | cons x X3 =>
      simp only [List.length_cons] at hlen
      have c : ((a + W1.length : Nat) : Int) < (b : Int) := by omega
      have hmem : ∀ y ∈ W1 ++ x :: X3, y < ln := fun y hy => hin y (hI.perm.mem_iff.1 hy)
      have hxl : x < ln := hmem x (List.mem_append_right _ (List.mem_cons_self ..))
      obtain ⟨Z, hZ⟩ : ∃ Z, P ++ (W1 ++ (X3 ++ Q)) = Z := ⟨_, rfl⟩
      have hZm : ∀ s, s ≤ W1.length → insZ Z (a + s) x = P ++ (((W1.take s ++ x :: W1.drop s) ++ X3) ++ Q) := fun s hs => by
        rw [← hZ, ← ha, insZ_mid P W1 (X3 ++ Q) x s hs, List.append_assoc (W1.take s ++ x :: W1.drop s)]
      have hZ0 : P ++ ((W1 ++ x :: X3) ++ Q) = insZ Z (a + W1.length) x := by
        rw [hZm W1.length (Nat.le_refl _), List.take_length, List.drop_length]; simp only [List.append_assoc, List.cons_append, List.nil_append]
      have hZl : Z.length + 1 = N := by
        have e : X'.length + 1 = W1.length + (X3.length + 1) := by
          have := hI.perm.length_eq
          rw [List.length_append, List.length_cons, List.length_cons] at this; omega
        rw [← hZ, ← hN]; simp only [List.length_append, List.length_cons]; omega
      have hZa : ∀ s, s < W1.length → Z.getD (a + s) default = W1.getD s default := fun s hs => by
        rw [← hZ, getD_app, if_neg (by omega), ha, Nat.add_sub_cancel_left, getD_app, if_pos hs]
      rw [hZ0]
      clear hZ hZ0
      repeat (first | (apply G.ex (hd := rfl); case h => (first | exact Ex.move rfl | exact Ex.lss rfl rfl | exact Ex.assign rfl)) | refine G.nil ?_ | refine GC.seq ?_ | refine GC.region ?_ | refine GC.block ?_ | refine GC.skip ?_ | refine GE.then_normal ?_ | refine GC.cond_yes rfl (by first | assumption | omega) ?_)
      refine GC.loop (ι := Nat) (fun s => s ≤ W1.length ∧ (s = W1.length ∨ key Ls x < key Ls (W1.getD s default))) (fun s => s) (fun s => [(0, .slice da N dc), (1, .int .i64 (a : Int)), (2, .int .i64 (b : Int)), (3, cmpV kb), (8, .int .i64 ((a + W1.length : Nat) : Int)), (9, .int .i64 ((a + s : Nat) : Int))]) (fun s => [DR da N dc (insZ Z (a + s) x), KB kb la ln lc, LS la ln lc Ls]) W1.length ⟨Nat.le_refl _, .inl rfl⟩ (by simp only [fits]; repeat (first | exact trivial | refine And.intro rfl ?_)) (by repeat first | exact tn_ | apply td_ rfl | apply tc_ | exact .here | apply Take1.there) ?_
      rintro s ⟨hs, hf2⟩ fr_ rs_ hfr_ hrs_
      simp only [List.cons_append, List.nil_append] at hfr_ hrs_
      subst hfr_ hrs_
      have hnext := fun f1 => hI.next s hs f1 hf2
      have hil := insZ_len (Z := Z) (c := a + s) x (by omega)
      cases s with
      | zero =>
        obtain ⟨n1, n2⟩ := hnext (.inl rfl)
        have c0 : ¬ ((a + 0 : Nat) : Int) > (a : Int) := by omega
        have e0 := hZm 0 (Nat.zero_le _)
        clear hZm hZa hnext hmem hI hf2
        repeat (first | (apply G.ex (hd := rfl); case h => (first | exact Ex.move rfl | exact Ex.add rfl rfl (by omega) | exact Ex.assign rfl)) | refine G.nil ?_ | (apply Gq.ex (hd := rfl); case h => (first | exact Ex.move rfl | exact Ex.gtr rfl rfl | exact Ex.pickF rfl (by first | assumption | omega) rfl)) | refine Gq.g_tf rfl rfl (by first | assumption | omega) rfl ?_ | refine Gq.nil ?_ | refine GC.seq ?_ | refine GC.region ?_ | refine GC.draw (by kernel_rfl) (by kernel_rfl) ?_ | refine GC.exit ?_ | refine GE.then_normal ?_ | refine GE.then_exit ?_ | refine GE.block_normal ?_ | refine GE.block_hit ?_ | refine GC.cond_f rfl ?_)
        rw [e0, show ((a + W1.length : Nat) : Int) + 1 = ((a + (W1.take 0 ++ x :: W1.drop 0).length : Nat) : Int) by omega]
        refine GE.loop (W1.take 0 ++ x :: W1.drop 0, X3) n1 (by simp only [List.length_cons]; omega) (by simp only [fits]; repeat (first | exact trivial | refine And.intro rfl ?_)) (by repeat first | exact tn_ | apply td_ rfl | apply tc_ | exact .here | apply Take1.there) (by repeat (first | exact Subs.refl | refine Subs.skip ?_))
      | succ s =>
        have c0 : ((a + (s + 1) : Nat) : Int) > (a : Int) := by omega
        have e0 := hZm (s + 1) hs
        have hyl : W1.getD s default < ln := hmem _ (List.mem_append_left _ (getD_mem' (by omega)))
        have hx_ : (insZ Z (a + (s + 1)) x).getD (a + (s + 1)) default = x := by rw [insZ_at x (by omega), if_neg (by omega), if_pos rfl]
        have hy_ : (insZ Z (a + (s + 1)) x).getD (a + s) default = W1.getD s default := by rw [insZ_at x (by omega), if_pos (by omega), hZa s (by omega)]
        have hsw : ((insZ Z (a + (s + 1)) x).set (a + (s + 1)) (W1.getD s default)).set (a + s) x = insZ Z (a + s) x := by
          have := insZ_left (Z := Z) (c := a + s) x (by omega)
          unfold huff.swp at this
          rw [show a + s + 1 = a + (s + 1) by omega, hx_, hy_] at this
          exact this
        have hgj := at_eN (i := a + (s + 1)) (by omega) hx_
        have hgi := at_eN (i := a + s) (by omega) hy_
        have hj1 : a + (s + 1) < N := by omega
        have hi1 : a + s < N := by omega
        clear hx_ hy_ hZm hZa hI hmem hf2
        repeat (first | refine GC.seq ?_)
        refine GC.vecSome (List.mem_cons_self ..) (by omega) fun q hq => ?_
        subst hq
        refine GC.drawA [] [DR (some q) N dc (insZ Z (a + (s + 1)) x)] (by repeat first | exact tn_ | apply td_ rfl | apply tc_ | exact .here | apply Take1.there) (by kernel_rfl) ?_
        first | (apply GA.take [] (hD := .inl rfl) (hsub := ⟨_, Takes.nil⟩) (i := 0) (hi := rfl) (hs := by kernel_rfl) (hfr := by kernel_rfl) (hr := by kernel_rfl) (hQ := np_) (hd := rfl); case hx => (first | exact Ex.move rfl))
        first | (apply GA.take [] (hD := .inl rfl) (hsub := ⟨_, Takes.nil⟩) (i := 1) (hi := rfl) (hs := by kernel_rfl) (hfr := by kernel_rfl) (hr := by kernel_rfl) (hQ := np_) (hd := rfl); case hx => (first | exact Ex.move rfl))
        first | (apply GA.take [] (hD := .inl rfl) (hsub := ⟨_, Takes.nil⟩) (i := 2) (hi := rfl) (hs := by kernel_rfl) (hfr := by kernel_rfl) (hr := by kernel_rfl) (hQ := np_) (hd := rfl); case hx => (first | exact Ex.gtr rfl rfl))
        first | (apply GA.take [] (hD := .inl rfl) (hsub := ⟨_, Takes.nil⟩) (i := 3) (hi := rfl) (hs := by kernel_rfl) (hfr := by kernel_rfl) (hr := by kernel_rfl) (hQ := np_) (hd := rfl); case hx => (first | exact Ex.move rfl))
        first | (apply GA.takeY [] (hD := .inl rfl) (hsub := ⟨_, Takes.nil⟩) (hj := rfl) (hb := (by first | exact rfl | exact look_dec rfl (decide_eq_true (by first | assumption | omega)) | exact look_dec rfl (decide_eq_false (by first | assumption | omega)))) (i := 4) (hi := rfl) (hs := by kernel_rfl) (hfr := by kernel_rfl) (hr := by kernel_rfl) (hQ := np_) (hd := rfl); case hx => (first | exact Ex.move rfl)) | (apply GA.takeY _ (hD := .inr ⟨rfl, by kernel_rfl⟩) (hsub := ⟨_, (by repeat first | exact tn_ | apply td_ rfl | apply tc_ | exact .here | apply Take1.there)⟩) (hj := rfl) (hb := (by first | exact rfl | exact look_dec rfl (decide_eq_true (by first | assumption | omega)) | exact look_dec rfl (decide_eq_false (by first | assumption | omega)))) (i := 4) (hi := rfl) (hs := by kernel_rfl) (hfr := by kernel_rfl) (hr := by kernel_rfl) (hQ := np_) (hd := rfl); case hx => (first | exact Ex.move rfl)) | refine GA.takeN (hj := rfl) (hb := rfl) (hv := (by first | exact ne_undef | exact ne_lit (by decide) | exact ne_dec (by rw [decide_eq_true (by first | assumption | omega)]; decide) | exact ne_dec (by rw [decide_eq_false (by first | assumption | omega)]; decide))) (i := 4) (hi := rfl) (hs := by kernel_rfl) (hfr := by kernel_rfl) (hr := by kernel_rfl) (hQ := np_) (hd := rfl) ?_
        first | (apply GA.takeY [] (hD := .inl rfl) (hsub := ⟨_, Takes.nil⟩) (hj := rfl) (hb := (by first | exact rfl | exact look_dec rfl (decide_eq_true (by first | assumption | omega)) | exact look_dec rfl (decide_eq_false (by first | assumption | omega)))) (i := 5) (hi := rfl) (hs := by kernel_rfl) (hfr := by kernel_rfl) (hr := by kernel_rfl) (hQ := np_) (hd := rfl); case hx => (first | exact Ex.move rfl)) | (apply GA.takeY _ (hD := .inr ⟨rfl, by kernel_rfl⟩) (hsub := ⟨_, (by repeat first | exact tn_ | apply td_ rfl | apply tc_ | exact .here | apply Take1.there)⟩) (hj := rfl) (hb := (by first | exact rfl | exact look_dec rfl (decide_eq_true (by first | assumption | omega)) | exact look_dec rfl (decide_eq_false (by first | assumption | omega)))) (i := 5) (hi := rfl) (hs := by kernel_rfl) (hfr := by kernel_rfl) (hr := by kernel_rfl) (hQ := np_) (hd := rfl); case hx => (first | exact Ex.move rfl)) | refine GA.takeN (hj := rfl) (hb := rfl) (hv := (by first | exact ne_undef | exact ne_lit (by decide) | exact ne_dec (by rw [decide_eq_true (by first | assumption | omega)]; decide) | exact ne_dec (by rw [decide_eq_false (by first | assumption | omega)]; decide))) (i := 5) (hi := rfl) (hs := by kernel_rfl) (hfr := by kernel_rfl) (hr := by kernel_rfl) (hQ := np_) (hd := rfl) ?_
        first | (apply GA.takeY [] (hD := .inl rfl) (hsub := ⟨_, Takes.nil⟩) (hj := rfl) (hb := (by first | exact rfl | exact look_dec rfl (decide_eq_true (by first | assumption | omega)) | exact look_dec rfl (decide_eq_false (by first | assumption | omega)))) (i := 6) (hi := rfl) (hs := by kernel_rfl) (hfr := by kernel_rfl) (hr := by kernel_rfl) (hQ := np_) (hd := rfl); case hx => (first | exact Ex.move rfl)) | (apply GA.takeY _ (hD := .inr ⟨rfl, by kernel_rfl⟩) (hsub := ⟨_, (by repeat first | exact tn_ | apply td_ rfl | apply tc_ | exact .here | apply Take1.there)⟩) (hj := rfl) (hb := (by first | exact rfl | exact look_dec rfl (decide_eq_true (by first | assumption | omega)) | exact look_dec rfl (decide_eq_false (by first | assumption | omega)))) (i := 6) (hi := rfl) (hs := by kernel_rfl) (hfr := by kernel_rfl) (hr := by kernel_rfl) (hQ := np_) (hd := rfl); case hx => (first | exact Ex.move rfl)) | refine GA.takeN (hj := rfl) (hb := rfl) (hv := (by first | exact ne_undef | exact ne_lit (by decide) | exact ne_dec (by rw [decide_eq_true (by first | assumption | omega)]; decide) | exact ne_dec (by rw [decide_eq_false (by first | assumption | omega)]; decide))) (i := 6) (hi := rfl) (hs := by kernel_rfl) (hfr := by kernel_rfl) (hr := by kernel_rfl) (hQ := np_) (hd := rfl) ?_
        apply GA.takeY [] (hD := .inl rfl) (hsub := ⟨_, Takes.nil⟩) (i := 7) (hi := rfl) (hj := rfl) (hb := (by first | exact rfl | exact look_dec rfl (decide_eq_true (by first | assumption | omega)) | exact look_dec rfl (decide_eq_false (by first | assumption | omega)))) (hs := by kernel_rfl) (hfr := by kernel_rfl) (hr := by kernel_rfl) (hQ := np_) (hd := rfl) (hx := (Ex.indexSome (k := a + (s + 1)) rfl rfl hj1))
        apply GA.takeY _ (hD := .inr ⟨rfl, by kernel_rfl⟩) (hsub := ⟨_, (by repeat first | exact tn_ | apply td_ rfl | apply tc_ | exact .here | apply Take1.there)⟩) (i := 8) (hi := rfl) (hj := rfl) (hb := (by first | exact rfl | exact look_dec rfl (decide_eq_true (by first | assumption | omega)) | exact look_dec rfl (decide_eq_false (by first | assumption | omega)))) (hs := by kernel_rfl) (hfr := by kernel_rfl) (hr := by kernel_rfl) (hQ := np_) (hd := rfl) (hx := (Ex.loadE (k := (a + (s + 1)) * 1) rfl hgj))
        first | (apply GA.takeY [] (hD := .inl rfl) (hsub := ⟨_, Takes.nil⟩) (hj := rfl) (hb := (by first | exact rfl | exact look_dec rfl (decide_eq_true (by first | assumption | omega)) | exact look_dec rfl (decide_eq_false (by first | assumption | omega)))) (i := 9) (hi := rfl) (hs := by kernel_rfl) (hfr := by kernel_rfl) (hr := by kernel_rfl) (hQ := np_) (hd := rfl); case hx => (first | exact Ex.move rfl)) | (apply GA.takeY _ (hD := .inr ⟨rfl, by kernel_rfl⟩) (hsub := ⟨_, (by repeat first | exact tn_ | apply td_ rfl | apply tc_ | exact .here | apply Take1.there)⟩) (hj := rfl) (hb := (by first | exact rfl | exact look_dec rfl (decide_eq_true (by first | assumption | omega)) | exact look_dec rfl (decide_eq_false (by first | assumption | omega)))) (i := 9) (hi := rfl) (hs := by kernel_rfl) (hfr := by kernel_rfl) (hr := by kernel_rfl) (hQ := np_) (hd := rfl); case hx => (first | exact Ex.move rfl)) | refine GA.takeN (hj := rfl) (hb := rfl) (hv := (by first | exact ne_undef | exact ne_lit (by decide) | exact ne_dec (by rw [decide_eq_true (by first | assumption | omega)]; decide) | exact ne_dec (by rw [decide_eq_false (by first | assumption | omega)]; decide))) (i := 9) (hi := rfl) (hs := by kernel_rfl) (hfr := by kernel_rfl) (hr := by kernel_rfl) (hQ := np_) (hd := rfl) ?_
        first | (apply GA.takeY [] (hD := .inl rfl) (hsub := ⟨_, Takes.nil⟩) (hj := rfl) (hb := (by first | exact rfl | exact look_dec rfl (decide_eq_true (by first | assumption | omega)) | exact look_dec rfl (decide_eq_false (by first | assumption | omega)))) (i := 10) (hi := rfl) (hs := by kernel_rfl) (hfr := by kernel_rfl) (hr := by kernel_rfl) (hQ := np_) (hd := rfl); case hx => (first | exact Ex.move rfl)) | (apply GA.takeY _ (hD := .inr ⟨rfl, by kernel_rfl⟩) (hsub := ⟨_, (by repeat first | exact tn_ | apply td_ rfl | apply tc_ | exact .here | apply Take1.there)⟩) (hj := rfl) (hb := (by first | exact rfl | exact look_dec rfl (decide_eq_true (by first | assumption | omega)) | exact look_dec rfl (decide_eq_false (by first | assumption | omega)))) (i := 10) (hi := rfl) (hs := by kernel_rfl) (hfr := by kernel_rfl) (hr := by kernel_rfl) (hQ := np_) (hd := rfl); case hx => (first | exact Ex.move rfl)) | refine GA.takeN (hj := rfl) (hb := rfl) (hv := (by first | exact ne_undef | exact ne_lit (by decide) | exact ne_dec (by rw [decide_eq_true (by first | assumption | omega)]; decide) | exact ne_dec (by rw [decide_eq_false (by first | assumption | omega)]; decide))) (i := 10) (hi := rfl) (hs := by kernel_rfl) (hfr := by kernel_rfl) (hr := by kernel_rfl) (hQ := np_) (hd := rfl) ?_
        first | (apply GA.takeY [] (hD := .inl rfl) (hsub := ⟨_, Takes.nil⟩) (hj := rfl) (hb := (by first | exact rfl | exact look_dec rfl (decide_eq_true (by first | assumption | omega)) | exact look_dec rfl (decide_eq_false (by first | assumption | omega)))) (i := 11) (hi := rfl) (hs := by kernel_rfl) (hfr := by kernel_rfl) (hr := by kernel_rfl) (hQ := np_) (hd := rfl); case hx => (first | exact Ex.sub rfl rfl (by omega))) | (apply GA.takeY _ (hD := .inr ⟨rfl, by kernel_rfl⟩) (hsub := ⟨_, (by repeat first | exact tn_ | apply td_ rfl | apply tc_ | exact .here | apply Take1.there)⟩) (hj := rfl) (hb := (by first | exact rfl | exact look_dec rfl (decide_eq_true (by first | assumption | omega)) | exact look_dec rfl (decide_eq_false (by first | assumption | omega)))) (i := 11) (hi := rfl) (hs := by kernel_rfl) (hfr := by kernel_rfl) (hr := by kernel_rfl) (hQ := np_) (hd := rfl); case hx => (first | exact Ex.sub rfl rfl (by omega))) | refine GA.takeN (hj := rfl) (hb := rfl) (hv := (by first | exact ne_undef | exact ne_lit (by decide) | exact ne_dec (by rw [decide_eq_true (by first | assumption | omega)]; decide) | exact ne_dec (by rw [decide_eq_false (by first | assumption | omega)]; decide))) (i := 11) (hi := rfl) (hs := by kernel_rfl) (hfr := by kernel_rfl) (hr := by kernel_rfl) (hQ := np_) (hd := rfl) ?_
        rw [show ((a + (s + 1) : Nat) : Int) - 1 = ((a + s : Nat) : Int) by omega]
        apply GA.takeY [] (hD := .inl rfl) (hsub := ⟨_, Takes.nil⟩) (i := 12) (hi := rfl) (hj := rfl) (hb := (by first | exact rfl | exact look_dec rfl (decide_eq_true (by first | assumption | omega)) | exact look_dec rfl (decide_eq_false (by first | assumption | omega)))) (hs := by kernel_rfl) (hfr := by kernel_rfl) (hr := by kernel_rfl) (hQ := np_) (hd := rfl) (hx := (Ex.indexSome (k := a + s) rfl rfl hi1))
        apply GA.takeY _ (hD := .inr ⟨rfl, by kernel_rfl⟩) (hsub := ⟨_, (by repeat first | exact tn_ | apply td_ rfl | apply tc_ | exact .here | apply Take1.there)⟩) (i := 13) (hi := rfl) (hj := rfl) (hb := (by first | exact rfl | exact look_dec rfl (decide_eq_true (by first | assumption | omega)) | exact look_dec rfl (decide_eq_false (by first | assumption | omega)))) (hs := by kernel_rfl) (hfr := by kernel_rfl) (hr := by kernel_rfl) (hQ := np_) (hd := rfl) (hx := (Ex.loadE (k := (a + s) * 1) rfl hgi))
        refine GA.one (i := 14) (by kernel_rfl) rfl ?_
        first | refine G.yes rfl rfl ?_ | refine G.g_tt rfl rfl (by first | assumption | omega) ?_
        first | refine G.call (order1_sp kb la ln lc Ls hl x (W1.getD s default) hxl hyl) rfl rfl rfl rfl (by repeat first | exact tn_ | apply td_ rfl | apply tc_ | exact .here | apply Take1.there) ?_ | refine G.callU (order1_sp kb la ln lc Ls hl x (W1.getD s default) hxl hyl) rfl rfl rfl (by repeat first | exact tn_ | apply td_ rfl | apply tc_ | exact .here | apply Take1.there) ?_
        rintro v_ give_ ⟨rfl, rfl⟩ rs_ hrs_
        simp only [List.cons_append, List.nil_append] at hrs_
        subst hrs_
        try refine G.nil ?_
        refine GA.back (by first | exact .inl (by decide) | exact .inr ⟨_, (by repeat first | exact tn_ | apply td_ rfl | apply tc_ | exact .here | apply Take1.there)⟩) ?_
        first | (apply GA.takeY [] (hD := .inl rfl) (hsub := ⟨_, Takes.nil⟩) (hj := rfl) (hb := (by first | exact rfl | exact look_dec rfl (decide_eq_true (by first | assumption | omega)) | exact look_dec rfl (decide_eq_false (by first | assumption | omega)))) (i := 15) (hi := rfl) (hs := by kernel_rfl) (hfr := by kernel_rfl) (hr := by kernel_rfl) (hQ := np_) (hd := rfl); case hx => (first | exact Ex.lss rfl rfl)) | (apply GA.takeY _ (hD := .inr ⟨rfl, by kernel_rfl⟩) (hsub := ⟨_, (by repeat first | exact tn_ | apply td_ rfl | apply tc_ | exact .here | apply Take1.there)⟩) (hj := rfl) (hb := (by first | exact rfl | exact look_dec rfl (decide_eq_true (by first | assumption | omega)) | exact look_dec rfl (decide_eq_false (by first | assumption | omega)))) (i := 15) (hi := rfl) (hs := by kernel_rfl) (hfr := by kernel_rfl) (hr := by kernel_rfl) (hQ := np_) (hd := rfl); case hx => (first | exact Ex.lss rfl rfl)) | refine GA.takeN (hj := rfl) (hb := rfl) (hv := (by first | exact ne_undef | exact ne_lit (by decide) | exact ne_dec (by rw [decide_eq_true (by first | assumption | omega)]; decide) | exact ne_dec (by rw [decide_eq_false (by first | assumption | omega)]; decide))) (i := 15) (hi := rfl) (hs := by kernel_rfl) (hfr := by kernel_rfl) (hr := by kernel_rfl) (hQ := np_) (hd := rfl) ?_
        rw [cmp3_lt]
        first | (apply GA.take [] (hD := .inl rfl) (hsub := ⟨_, Takes.nil⟩) (i := 16) (hi := rfl) (hs := by kernel_rfl) (hfr := by kernel_rfl) (hr := by kernel_rfl) (hQ := np_) (hd := rfl); case hx => (first | exact Ex.pickT rfl (by first | assumption | omega) rfl))
        refine GA.done (by kernel_rfl) ?_
        by_cases ck : key Ls x < key Ls (W1.getD s default)
        · clear hnext
          repeat (first | refine GC.seq ?_ | refine GC.block ?_ | refine GC.skip ?_ | refine GE.then_normal ?_ | refine GC.cond_yes rfl (by first | assumption | omega) ?_)
          refine GC.drawA [15, 17] [DR (some q) N dc (insZ Z (a + (s + 1)) x)] (by repeat first | exact tn_ | apply td_ rfl | apply tc_ | exact .here | apply Take1.there) (by kernel_rfl) ?_
          first | (apply GA.take [] (hD := .inl rfl) (hsub := ⟨_, Takes.nil⟩) (i := 0) (hi := rfl) (hs := by kernel_rfl) (hfr := by kernel_rfl) (hr := by kernel_rfl) (hQ := np_) (hd := rfl); case hx => (first | exact Ex.move rfl))
          first | (apply GA.take [] (hD := .inl rfl) (hsub := ⟨_, Takes.nil⟩) (i := 1) (hi := rfl) (hs := by kernel_rfl) (hfr := by kernel_rfl) (hr := by kernel_rfl) (hQ := np_) (hd := rfl); case hx => (first | exact Ex.move rfl))
          first | (apply GA.take [] (hD := .inl rfl) (hsub := ⟨_, Takes.nil⟩) (i := 2) (hi := rfl) (hs := by kernel_rfl) (hfr := by kernel_rfl) (hr := by kernel_rfl) (hQ := np_) (hd := rfl); case hx => (first | exact Ex.move rfl))
          first | (apply GA.take [] (hD := .inl rfl) (hsub := ⟨_, Takes.nil⟩) (i := 3) (hi := rfl) (hs := by kernel_rfl) (hfr := by kernel_rfl) (hr := by kernel_rfl) (hQ := np_) (hd := rfl); case hx => (first | exact Ex.move rfl))
          first | (apply GA.take [] (hD := .inl rfl) (hsub := ⟨_, Takes.nil⟩) (i := 4) (hi := rfl) (hs := by kernel_rfl) (hfr := by kernel_rfl) (hr := by kernel_rfl) (hQ := np_) (hd := rfl); case hx => (first | exact Ex.sub rfl rfl (by omega)))
          first | (apply GA.take [] (hD := .inl rfl) (hsub := ⟨_, Takes.nil⟩) (i := 5) (hi := rfl) (hs := by kernel_rfl) (hfr := by kernel_rfl) (hr := by kernel_rfl) (hQ := np_) (hd := rfl); case hx => (first | exact Ex.move rfl))
          first | (apply GA.take [] (hD := .inl rfl) (hsub := ⟨_, Takes.nil⟩) (i := 6) (hi := rfl) (hs := by kernel_rfl) (hfr := by kernel_rfl) (hr := by kernel_rfl) (hQ := np_) (hd := rfl); case hx => (first | exact Ex.move rfl))
          first | (apply GA.take [] (hD := .inl rfl) (hsub := ⟨_, Takes.nil⟩) (i := 7) (hi := rfl) (hs := by kernel_rfl) (hfr := by kernel_rfl) (hr := by kernel_rfl) (hQ := np_) (hd := rfl); case hx => (first | exact Ex.sub rfl rfl (by omega)))
          first | (apply GA.take [] (hD := .inl rfl) (hsub := ⟨_, Takes.nil⟩) (i := 10) (hi := rfl) (hs := by kernel_rfl) (hfr := by kernel_rfl) (hr := by kernel_rfl) (hQ := np_) (hd := rfl); case hx => (first | exact Ex.move rfl))
          first | (apply GA.take [] (hD := .inl rfl) (hsub := ⟨_, Takes.nil⟩) (i := 11) (hi := rfl) (hs := by kernel_rfl) (hfr := by kernel_rfl) (hr := by kernel_rfl) (hQ := np_) (hd := rfl); case hx => (first | exact Ex.move rfl))
          rw [show ((a + (s + 1) : Nat) : Int) - 1 = ((a + s : Nat) : Int) by omega]
          apply GA.take [] (hD := .inl rfl) (hsub := ⟨_, Takes.nil⟩) (i := 8) (hi := rfl) (hs := by kernel_rfl) (hfr := by kernel_rfl) (hr := by kernel_rfl) (hQ := np_) (hd := rfl) (hx := (Ex.indexSome (k := a + s) rfl rfl hi1))
          apply GA.take _ (hD := .inr ⟨rfl, by kernel_rfl⟩) (hsub := ⟨_, (by repeat first | exact tn_ | apply td_ rfl | apply tc_ | exact .here | apply Take1.there)⟩) (i := 9) (hi := rfl) (hs := by kernel_rfl) (hfr := by kernel_rfl) (hr := by kernel_rfl) (hQ := np_) (hd := rfl) (hx := (Ex.loadE (k := (a + s) * 1) rfl hgi))
          apply GA.take [] (hD := .inl rfl) (hsub := ⟨_, Takes.nil⟩) (i := 12) (hi := rfl) (hs := by kernel_rfl) (hfr := by kernel_rfl) (hr := by kernel_rfl) (hQ := np_) (hd := rfl) (hx := (Ex.indexSome (k := a + (s + 1)) rfl rfl hj1))
          apply GA.take _ (hD := .inr ⟨rfl, by kernel_rfl⟩) (hsub := ⟨_, (by repeat first | exact tn_ | apply td_ rfl | apply tc_ | exact .here | apply Take1.there)⟩) (i := 13) (hi := rfl) (hs := by kernel_rfl) (hfr := by kernel_rfl) (hr := by kernel_rfl) (hQ := np_) (hd := rfl) (hx := (Ex.loadE (k := (a + (s + 1)) * 1) rfl hgj))
          apply GA.take [] (hD := .inl rfl) (hsub := ⟨_, Takes.nil⟩) (i := 14) (hi := rfl) (hs := by kernel_rfl) (hfr := by kernel_rfl) (hr := by kernel_rfl) (hQ := np_) (hd := rfl) (hx := (Ex.indexSome (k := a + (s + 1)) rfl rfl hj1))
          refine GA.one (i := 15) (by kernel_rfl) rfl ?_
          first | refine G.storeT0 rfl rfl rfl rfl (by first | omega | (simp; omega)) rfl ((W1.getD s default)) (rfl) (fun rs_ hrs_ => ?_) | refine G.storeT rfl rfl rfl rfl (by first | omega | (simp; omega)) rfl ((W1.getD s default)) (rfl) (fun rs_ hrs_ => ?_) | refine G.storeTA rfl rfl (by first | omega | (simp; omega)) rfl ((W1.getD s default)) (rfl) (fun rs_ hrs_ => ?_)
          try simp only at hrs_
          subst hrs_
          try refine G.nil ?_
          refine GA.back (by first | exact .inl (by decide) | exact .inr ⟨_, (by repeat first | exact tn_ | apply td_ rfl | apply tc_ | exact .here | apply Take1.there)⟩) ?_
          apply GA.take [] (hD := .inl rfl) (hsub := ⟨_, Takes.nil⟩) (i := 16) (hi := rfl) (hs := by kernel_rfl) (hfr := by kernel_rfl) (hr := by kernel_rfl) (hQ := np_) (hd := rfl) (hx := (Ex.indexSome (k := a + s) rfl rfl hi1))
          refine GA.one (i := 17) (by kernel_rfl) rfl ?_
          first | refine G.storeT0 rfl rfl rfl rfl (by first | omega | (simp; omega)) rfl (x) (rfl) (fun rs_ hrs_ => ?_) | refine G.storeT rfl rfl rfl rfl (by first | omega | (simp; omega)) rfl (x) (rfl) (fun rs_ hrs_ => ?_) | refine G.storeTA rfl rfl (by first | omega | (simp; omega)) rfl (x) (rfl) (fun rs_ hrs_ => ?_)
          try simp only at hrs_
          subst hrs_
          try refine G.nil ?_
          refine GA.back (by first | exact .inl (by decide) | exact .inr ⟨_, (by repeat first | exact tn_ | apply td_ rfl | apply tc_ | exact .here | apply Take1.there)⟩) ?_
          refine GA.done (by kernel_rfl) ?_
          rw [hsw]
          repeat (first | (apply G.ex (hd := rfl); case h => (first | exact Ex.move rfl | exact Ex.sub rfl rfl (by omega) | exact Ex.assign rfl)) | refine G.nil ?_ | refine GC.region ?_ | refine GE.then_normal ?_ | refine GE.block_normal ?_)
          rw [show ((a + (s + 1) : Nat) : Int) - 1 = ((a + s : Nat) : Int) by omega]
          refine GE.loop s ⟨by omega, .inr ck⟩ (by omega) (by simp only [fits]; repeat (first | exact trivial | refine And.intro rfl ?_)) (by repeat first | exact tn_ | apply td_ rfl | apply tc_ | exact .here | apply Take1.there) (by repeat (first | exact Subs.refl | refine Subs.skip ?_))
        · obtain ⟨n1, n2⟩ := hnext (.inr ck)
          clear hnext
          repeat (first | (apply G.ex (hd := rfl); case h => (first | exact Ex.move rfl | exact Ex.add rfl rfl (by omega) | exact Ex.assign rfl)) | refine G.nil ?_ | refine GC.region ?_ | refine GC.exit ?_ | refine GE.then_normal ?_ | refine GE.then_exit ?_ | refine GE.block_normal ?_ | refine GE.block_hit ?_ | refine GC.cond_no rfl (by first | assumption | omega) ?_)
          rw [e0, show ((a + W1.length : Nat) : Int) + 1 = ((a + (W1.take (s + 1) ++ x :: W1.drop (s + 1)).length : Nat) : Int) by omega]
          refine GE.loop (W1.take (s + 1) ++ x :: W1.drop (s + 1), X3) n1 (by simp only [List.length_cons]; omega) (by simp only [fits]; repeat (first | exact trivial | refine And.intro rfl ?_)) (by repeat first | exact tn_ | apply td_ rfl | apply tc_ | exact .here | apply Take1.there) (by repeat (first | exact Subs.refl | refine Subs.skip ?_))
end sort
end Go.Proofs.Ytfkgchdbjfbdaaa
