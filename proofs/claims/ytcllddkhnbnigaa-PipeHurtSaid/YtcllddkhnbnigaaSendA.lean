/-
  CONTRACTS of who sends: its small functions, by the kit.
-/
import Derived.Test.YtcllddkhnbnigaaPlainM
import Derived.Test.YtcllddkhnbnigaaHole2
import Derived.Test.YtcllddkhnbnigaaKitM2
namespace Go.Proofs.Ytcllddkhnbnigaa
open Go.RowKit
attribute [local irreducible] Ex G GC GE Gq FPost LPost
set_option linter.unusedVariables false
set_option linter.unusedSimpArgs false
namespace send
open hole
theorem end_sp (hb : Nat) (s : Se) (hk : SOk s) (da : Option Addr) (dc : Nat) (mo : Option Addr) (mc : Nat) :
    Spec Try.prog 50 [.pointer (some (badr hb 0))] [.blk hb 79 [.slice da (s).data.length dc, .bool (s).closed, .int .i64 (s).done, .slice mo (s).more.length mc, .int .i64 (s).next, .int .i64 (s).again, .int .i64 (s).edge]] fun v give => v = .int .i64 s.end_ ∧ give = [.blk hb 79 [.slice da (s).data.length dc, .bool (s).closed, .int .i64 (s).done, .slice mo (s).more.length mc, .int .i64 (s).next, .int .i64 (s).again, .int .i64 (s).edge]] := by
  have hl := hk.len
  obtain ⟨data, closed, done, more, next, again, edge⟩ := s
  simp only at hl ⊢
  refine Spec.intro Try.func50 rfl Try.ntmps50 rfl fun w0 rest rs_ hrs_ => ?_
  simp only [List.cons_append, List.nil_append] at hrs_
  subst hrs_
  cases closed with
  | true =>
    repeat (first | (apply G.ex (hd := rfl); case h => (first | exact Ex.move rfl | exact Ex.nilCheck rfl | exact Ex.fieldB rfl | exact Ex.loadB rfl rfl | exact Ex.add rfl rfl (by omega) | exact Ex.lenSl rfl | exact Ex.assign rfl)) | refine G.nil ?_ | refine GC.seq ?_ | refine GC.region ?_ | refine GC.ret ?_ | refine GE.then_normal ?_ | refine GE.then_ret ?_ | refine GC.cond_t rfl ?_)
    refine GE.ret (by first | exact .inl rfl | exact .inr rfl) (res1 Try.results50 rfl) ⟨rfl, rfl⟩ (by repeat first | exact tn_ | apply td_ rfl | apply tc_ | exact .here | apply Take1.there) (by repeat (first | exact Subs.refl | refine Subs.skip ?_))
  | false =>
    repeat (first | (apply G.ex (hd := rfl); case h => (first | exact Ex.move rfl | exact Ex.nilCheck rfl | exact Ex.fieldB rfl | exact Ex.loadB rfl rfl | exact Ex.lenSl rfl | exact Ex.assign rfl)) | refine G.nil ?_ | refine GC.seq ?_ | refine GC.region ?_ | refine GC.skip ?_ | refine GC.ret ?_ | refine GE.then_normal ?_ | refine GC.cond_f rfl ?_)
    refine GE.ret (by first | exact .inl rfl | exact .inr rfl) (res1 Try.results50 rfl) ⟨rfl, rfl⟩ (by repeat first | exact tn_ | apply td_ rfl | apply tc_ | exact .here | apply Take1.there) (by repeat (first | exact Subs.refl | refine Subs.skip ?_))
theorem take_chain {d : Int} {l : List R} (h : chain d l) (k : Nat) : chain d (l.take k) := by
  rw [← List.take_append_drop k l, chain_app] at h
  exact h.1
theorem last_take {d : Int} {l : List R} (h : chain d l) (k : Nat) : last d (l.take k) ≤ last d l := by
  rw [← List.take_append_drop k l, chain_app] at h
  conv => rhs; rw [← List.take_append_drop k l, last_app]
  exact chain_le _ _ h.2
theorem wide_take (l : List R) (k : Nat) (h : k < l.length) : wide (l.take (k + 1)) = wide (l.take k) + ((l.getD k default).2 - (l.getD k default).1) := by
  rw [getD_take l k h, wide_app]; simp [wide]
theorem left_sp (hb : Nat) (s : Se) (hk : SOk s) (da : Option Addr) (dc : Nat) (mo : Option Addr) (mc : Nat) :
    Spec Try.prog 34 [.pointer (some (badr hb 0))] [.blk hb 79 [.slice da (s).data.length dc, .bool (s).closed, .int .i64 (s).done, .slice mo (s).more.length mc, .int .i64 (s).next, .int .i64 (s).again, .int .i64 (s).edge], .sl mo s.more.length mc 2 (flat eR s.more)] fun v give => v = .int .i64 s.left ∧ give = [.blk hb 79 [.slice da (s).data.length dc, .bool (s).closed, .int .i64 (s).done, .slice mo (s).more.length mc, .int .i64 (s).next, .int .i64 (s).again, .int .i64 (s).edge], .sl mo s.more.length mc 2 (flat eR s.more)] := by
  have k0 := hk.may.d0
  have k1 := hk.dle
  have k2 := hk.la
  have k3 := hk.ne
  have k4 := hk.end1
  have k5 := hk.may.len
  refine Spec.intro Try.func34 rfl Try.ntmps34 rfl fun w0 rest rs_ hrs_ => ?_
  simp only [List.cons_append, List.nil_append] at hrs_
  subst hrs_
  repeat (first | (apply G.ex (hd := rfl); case h => (first | exact Ex.assign rfl)) | refine G.nil ?_ | refine GC.seq ?_ | refine GC.region ?_ | refine GE.then_normal ?_)
  refine GC.drawA [] [.blk hb 79 [.slice da (s).data.length dc, .bool (s).closed, .int .i64 (s).done, .slice mo (s).more.length mc, .int .i64 (s).next, .int .i64 (s).again, .int .i64 (s).edge]] (by repeat first | exact tn_ | apply td_ rfl | apply tc_ | exact .here | apply Take1.there) (by kernel_rfl) ?_
  first | (apply GA.take [] (hD := .inl rfl) (hsub := ⟨_, Takes.nil⟩) (i := 0) (hi := rfl) (hs := by kernel_rfl) (hfr := by kernel_rfl) (hr := by kernel_rfl) (hQ := np_) (hd := rfl); case hx => (first | exact Ex.move rfl))
  first | (apply GA.take [] (hD := .inl rfl) (hsub := ⟨_, Takes.nil⟩) (i := 2) (hi := rfl) (hs := by kernel_rfl) (hfr := by kernel_rfl) (hr := by kernel_rfl) (hQ := np_) (hd := rfl); case hx => (first | exact Ex.move rfl))
  first | (apply GA.take [] (hD := .inl rfl) (hsub := ⟨_, Takes.nil⟩) (i := 3) (hi := rfl) (hs := by kernel_rfl) (hfr := by kernel_rfl) (hr := by kernel_rfl) (hQ := np_) (hd := rfl); case hx => (first | exact Ex.nilCheck rfl))
  first | (apply GA.take [] (hD := .inl rfl) (hsub := ⟨_, Takes.nil⟩) (i := 4) (hi := rfl) (hs := by kernel_rfl) (hfr := by kernel_rfl) (hr := by kernel_rfl) (hQ := np_) (hd := rfl); case hx => (first | exact Ex.fieldB rfl))
  first | (apply GA.take _ (hD := .inr ⟨rfl, by kernel_rfl⟩) (hsub := ⟨_, (by repeat first | exact tn_ | apply td_ rfl | apply tc_ | exact .here | apply Take1.there)⟩) (i := 5) (hi := rfl) (hs := by kernel_rfl) (hfr := by kernel_rfl) (hr := by kernel_rfl) (hQ := np_) (hd := rfl); case hx => (first | exact Ex.loadB rfl rfl))
  refine GA.one (i := 1) (by kernel_rfl) rfl ?_
  first | refine G.call (caps := []) (end_sp hb s hk da dc mo mc) rfl rfl rfl rfl (by repeat first | exact tn_ | apply td_ rfl | apply tc_ | exact .here | apply Take1.there) ?_ | refine G.callU (caps := []) (end_sp hb s hk da dc mo mc) rfl rfl rfl (by repeat first | exact tn_ | apply td_ rfl | apply tc_ | exact .here | apply Take1.there) ?_
  rintro v_ give_ ⟨rfl, rfl⟩ rs_ hrs_
  simp only [List.cons_append, List.nil_append] at hrs_
  subst hrs_
  try refine G.nil ?_
  refine GA.back (by first | exact .inl (by decide) | exact .inr ⟨_, (by repeat first | exact tn_ | apply td_ rfl | apply tc_ | exact .here | apply Take1.there)⟩) ?_
  first | (apply GA.take [] (hD := .inl rfl) (hsub := ⟨_, Takes.nil⟩) (i := 6) (hi := rfl) (hs := by kernel_rfl) (hfr := by kernel_rfl) (hr := by kernel_rfl) (hQ := np_) (hd := rfl); case hx => (first | exact Ex.sub rfl rfl (by omega)))
  first | (apply GA.take [] (hD := .inl rfl) (hsub := ⟨_, Takes.nil⟩) (i := 7) (hi := rfl) (hs := by kernel_rfl) (hfr := by kernel_rfl) (hr := by kernel_rfl) (hQ := np_) (hd := rfl); case hx => (first | exact Ex.assign rfl))
  refine GA.done (by kernel_rfl) ?_
  repeat (first | (apply G.ex (hd := rfl); case h => (first | exact Ex.move rfl | exact Ex.nilCheck rfl | exact Ex.fieldB rfl | exact Ex.loadB rfl rfl | exact Ex.lenSl rfl)) | refine G.nil ?_ | refine GC.seq ?_ | refine GC.region ?_ | refine GC.block ?_ | refine GE.then_normal ?_)
  rw [show s.end_ - s.done = s.end_ - s.done - wide (s.more.take 0) by simp [wide]]
  refine GC.loop (ι := Nat) (fun k => k ≤ s.more.length) (fun k => s.more.length - k) (fun k => [(0, .pointer (some (badr hb 0))), (3, .int .i64 (s.end_ - s.done - wide (s.more.take k))), (16, .slice mo s.more.length mc), (17, .int .i64 (s.more.length : Int)), (18, .int .i64 (k : Int))]) (fun _ => [.blk hb 79 [.slice da (s).data.length dc, .bool (s).closed, .int .i64 (s).done, .slice mo (s).more.length mc, .int .i64 (s).next, .int .i64 (s).again, .int .i64 (s).edge], .sl mo s.more.length mc 2 (flat eR s.more)]) 0 (Nat.zero_le _) (by simp only [fits]; repeat (first | exact trivial | refine And.intro rfl ?_)) (by repeat first | exact tn_ | apply td_ rfl | apply tc_ | exact .here | apply Take1.there) ?_
  rintro k hk1 fr_ rs_ hfr_ hrs_
  simp only [List.cons_append, List.nil_append] at hfr_ hrs_
  subst hfr_ hrs_
  repeat (first | (apply G.ex (hd := rfl); case h => (first | exact Ex.lss rfl rfl)) | refine G.nil ?_ | refine GC.seq ?_ | refine GC.region ?_ | refine GE.then_normal ?_)
  refine GC.cond_dec rfl (fun hlt => ?_) (fun hlt => ?_)
  · have hlt : k < s.more.length := by omega
    have hw := wide_take s.more k hlt
    have hb1 := wide_bd _ _ (take_chain hk.may.ch k)
    have hb2 := last_take hk.may.ch k
    obtain ⟨c1, c2, c3⟩ := chain_mem _ _ hk.may.ch _ (getD_mem' s.more k hlt)
    repeat (first | (apply G.ex (hd := rfl); case h => (first | exact Ex.indexN rfl rfl (by first | omega | (simp; done) | (simp; omega)) | exact Ex.loadTA rfl (by first | omega | (simp; done) | (simp; omega)))) | refine GC.seq ?_ | refine GC.region ?_ | refine GC.block ?_ | refine GC.skip ?_ | refine GE.then_normal ?_)
    refine G.alloc rfl (fun rb => ?_)
    repeat (first | refine G.storeBA rfl rfl rfl rfl rfl ?_ | (apply G.ex (hd := rfl); case h => (first | exact Ex.move rfl | exact Ex.fieldB rfl | exact Ex.loadB rfl rfl | exact Ex.add rfl rfl (by omega) | exact Ex.sub rfl rfl (by omega) | exact Ex.assign rfl)) | refine G.nil ?_ | refine GC.region ?_ | refine GE.then_normal ?_ | refine GE.block_normal ?_)
    rw [show s.end_ - s.done - wide (s.more.take k) - ((s.more.getD k default).2 - (s.more.getD k default).1) = s.end_ - s.done - wide (s.more.take (k + 1)) by omega, show (k : Int) + 1 = ((k + 1 : Nat) : Int) by omega]
    refine GE.loop (k + 1) (by omega) (by omega) (by simp only [fits]; repeat (first | exact trivial | refine And.intro rfl ?_)) (by repeat first | exact tn_ | apply td_ rfl | apply tc_ | exact .here | apply Take1.there) (by repeat (first | exact Subs.refl | refine Subs.skip ?_))
  · obtain rfl : k = s.more.length := by omega
    repeat (first | (apply G.ex (hd := rfl); case h => (first | exact Ex.move rfl | exact Ex.assign rfl)) | refine G.nil ?_ | refine GC.seq ?_ | refine GC.region ?_ | refine GC.ret ?_ | refine GC.exit ?_ | refine GE.then_normal ?_ | refine GE.then_exit ?_ | refine GE.block_hit ?_)
    refine GE.ret (by first | exact .inl rfl | exact .inr rfl) (res1 Try.results34 rfl) ⟨by rw [List.take_length]; rfl, rfl⟩ (by repeat first | exact tn_ | apply td_ rfl | apply tc_ | exact .here | apply Take1.there) (by repeat (first | exact Subs.refl | refine Subs.skip ?_))
theorem first_sp (hb : Nat) (s : Se) (hk : SOk s) (f t : Int) (da : Option Addr) (dc : Nat) (mo : Option Addr) (mc : Nat) :
    Spec Try.prog 49 [.pointer (some (badr hb 0)), .int .i64 f, .int .i64 t] [.blk hb 79 [.slice da (s).data.length dc, .bool (s).closed, .int .i64 (s).done, .slice mo (s).more.length mc, .int .i64 (s).next, .int .i64 (s).again, .int .i64 (s).edge], .sl mo s.more.length mc 2 (flat eR s.more)] fun v give => v = .int .i64 (first s.done s.more f t) ∧ give = [.blk hb 79 [.slice da (s).data.length dc, .bool (s).closed, .int .i64 (s).done, .slice mo (s).more.length mc, .int .i64 (s).next, .int .i64 (s).again, .int .i64 (s).edge], .sl mo s.more.length mc 2 (flat eR s.more)] := by
  have k5 := hk.may.len
  refine Spec.intro Try.func49 rfl Try.ntmps49 rfl fun w0 rest rs_ hrs_ => ?_
  simp only [List.cons_append, List.nil_append] at hrs_
  subst hrs_
  repeat (first | (apply G.ex (hd := rfl); case h => (first | exact Ex.move rfl | exact Ex.nilCheck rfl | exact Ex.fieldB rfl | exact Ex.loadB rfl rfl | exact Ex.lenSl rfl | exact Ex.assign rfl | exact Ex.max rfl rfl)) | refine G.nil ?_ | refine GC.seq ?_ | refine GC.region ?_ | refine GC.block ?_ | refine GE.then_normal ?_)
  refine GC.loop (ι := Nat) (fun k => k ≤ s.more.length) (fun k => s.more.length - k) (fun k => [(0, .pointer (some (badr hb 0))), (1, .int .i64 (hops (max f s.done) (s.more.take k))), (2, .int .i64 t), (18, .slice mo s.more.length mc), (19, .int .i64 (s.more.length : Int)), (20, .int .i64 (k : Int))]) (fun _ => [.blk hb 79 [.slice da (s).data.length dc, .bool (s).closed, .int .i64 (s).done, .slice mo (s).more.length mc, .int .i64 (s).next, .int .i64 (s).again, .int .i64 (s).edge], .sl mo s.more.length mc 2 (flat eR s.more)]) 0 (Nat.zero_le _) (by simp only [fits]; repeat (first | exact trivial | refine And.intro rfl ?_)) (by repeat first | exact tn_ | apply td_ rfl | apply tc_ | exact .here | apply Take1.there) ?_
  rintro k hk1 fr_ rs_ hfr_ hrs_
  simp only [List.cons_append, List.nil_append] at hfr_ hrs_
  subst hfr_ hrs_
  repeat (first | (apply G.ex (hd := rfl); case h => (first | exact Ex.lss rfl rfl)) | refine G.nil ?_ | refine GC.seq ?_ | refine GC.region ?_ | refine GE.then_normal ?_)
  refine GC.cond_dec rfl (fun hlt => ?_) (fun hlt => ?_)
  · have hlt : k < s.more.length := by omega
    have hs : hops (max f s.done) (s.more.take (k + 1)) = hop (hops (max f s.done) (s.more.take k)) (s.more.getD k default) := by rw [getD_take s.more k hlt, hops_snoc]
    unfold hop at hs
    generalize hops (max f s.done) (s.more.take k) = g at *
    repeat (first | (apply G.ex (hd := rfl); case h => (first | exact Ex.indexN rfl rfl (by first | omega | (simp; done) | (simp; omega)) | exact Ex.loadTA rfl (by first | omega | (simp; done) | (simp; omega)))) | refine GC.seq ?_ | refine GC.region ?_ | refine GC.block ?_ | refine GC.skip ?_ | refine GE.then_normal ?_)
    refine G.alloc rfl (fun rb => ?_)
    by_cases h1 : (s.more.getD k default).1 ≤ g
    · by_cases h2 : g < (s.more.getD k default).2
      · rw [if_pos ⟨h1, h2⟩] at hs
        repeat (first | refine G.storeBA rfl rfl rfl rfl rfl ?_ | (apply G.ex (hd := rfl); case h => (first | exact Ex.move rfl | exact Ex.fieldB rfl | exact Ex.loadB rfl rfl | exact Ex.add rfl rfl (by omega) | exact Ex.lss rfl rfl | exact Ex.leq rfl rfl | exact Ex.assign rfl | exact Ex.pickT rfl (by first | assumption | omega) rfl)) | refine G.g_tt rfl rfl (by first | assumption | omega) ?_ | refine G.nil ?_ | refine GC.seq ?_ | refine GC.region ?_ | refine GE.then_normal ?_ | refine GE.block_normal ?_ | refine GC.cond_yes rfl (by first | assumption | omega) ?_)
        rw [← hs, show (k : Int) + 1 = ((k + 1 : Nat) : Int) by omega]
        refine GE.loop (k + 1) (by omega) (by omega) (by simp only [fits]; repeat (first | exact trivial | refine And.intro rfl ?_)) (by repeat first | exact tn_ | apply td_ rfl | apply tc_ | exact .here | apply Take1.there) (by repeat (first | exact Subs.refl | refine Subs.skip ?_))
      · rw [if_neg (fun h => h2 h.2)] at hs
        repeat (first | refine G.storeBA rfl rfl rfl rfl rfl ?_ | (apply G.ex (hd := rfl); case h => (first | exact Ex.move rfl | exact Ex.fieldB rfl | exact Ex.loadB rfl rfl | exact Ex.add rfl rfl (by omega) | exact Ex.lss rfl rfl | exact Ex.leq rfl rfl | exact Ex.pickT rfl (by first | assumption | omega) rfl)) | refine G.g_tt rfl rfl (by first | assumption | omega) ?_ | refine G.nil ?_ | refine GC.seq ?_ | refine GC.region ?_ | refine GC.skip ?_ | refine GE.then_normal ?_ | refine GE.block_normal ?_ | refine GC.cond_no rfl (by first | assumption | omega) ?_)
        rw [← hs, show (k : Int) + 1 = ((k + 1 : Nat) : Int) by omega]
        refine GE.loop (k + 1) (by omega) (by omega) (by simp only [fits]; repeat (first | exact trivial | refine And.intro rfl ?_)) (by repeat first | exact tn_ | apply td_ rfl | apply tc_ | exact .here | apply Take1.there) (by repeat (first | exact Subs.refl | refine Subs.skip ?_))
    · rw [if_neg (fun h => h1 h.1)] at hs
      repeat (first | refine G.storeBA rfl rfl rfl rfl rfl ?_ | (apply G.ex (hd := rfl); case h => (first | exact Ex.move rfl | exact Ex.fieldB rfl | exact Ex.loadB rfl rfl | exact Ex.add rfl rfl (by omega) | exact Ex.leq rfl rfl | exact Ex.pickF rfl (by first | assumption | omega) rfl)) | refine G.g_tf rfl rfl (by first | assumption | omega) rfl ?_ | refine G.nil ?_ | refine GC.seq ?_ | refine GC.region ?_ | refine GC.skip ?_ | refine GE.then_normal ?_ | refine GE.block_normal ?_ | refine GC.cond_f rfl ?_)
      rw [← hs, show (k : Int) + 1 = ((k + 1 : Nat) : Int) by omega]
      refine GE.loop (k + 1) (by omega) (by omega) (by simp only [fits]; repeat (first | exact trivial | refine And.intro rfl ?_)) (by repeat first | exact tn_ | apply td_ rfl | apply tc_ | exact .here | apply Take1.there) (by repeat (first | exact Subs.refl | refine Subs.skip ?_))
  · obtain rfl : k = s.more.length := by omega
    repeat (first | (apply G.ex (hd := rfl); case h => (first | exact Ex.move rfl | exact Ex.assign rfl | exact Ex.min rfl rfl)) | refine G.nil ?_ | refine GC.seq ?_ | refine GC.region ?_ | refine GC.ret ?_ | refine GC.exit ?_ | refine GE.then_normal ?_ | refine GE.then_exit ?_ | refine GE.block_hit ?_)
    refine GE.ret (by first | exact .inl rfl | exact .inr rfl) (res1 Try.results49 rfl) ⟨by rw [List.take_length]; rfl, rfl⟩ (by repeat first | exact tn_ | apply td_ rfl | apply tc_ | exact .here | apply Take1.there) (by repeat (first | exact Subs.refl | refine Subs.skip ?_))
/-- what is sent as it lies in memory -/
def eSt (t : St) (xo : Option Addr) (xc : Nat) : List Value := [.int .i64 t.code, .int .i64 t.from_, .slice xo t.data.length xc, .bool t.fin, .bool t.again, .bool t.idle, .int .i64 t.left]
theorem after_sp (hb : Nat) (t : St) (xo : Option Addr) (xc : Nat) (h0 : 0 ≤ t.from_ ∧ t.from_ ≤ 2000000) (hl : t.data.length ≤ 2000000) :
    Spec Try.prog 53 [.pointer (some (badr hb 0)), .agg (eSt t xo xc).toArray] [] fun v give => v = .int .i64 (if t.fin = true then t.from_ + t.data.length + 1 else t.from_ + t.data.length) ∧ give = [] := by
  obtain ⟨code, from_, data, fin, again, idle, left⟩ := t
  simp only at h0 hl ⊢
  refine Spec.intro Try.func53 rfl Try.ntmps53 rfl fun w0 rest rs_ hrs_ => ?_
  simp only [List.cons_append, List.nil_append] at hrs_
  subst hrs_
  repeat (first | refine GC.seq ?_ | refine GC.region ?_)
  refine G.box rfl rfl rfl (fun tb => ?_)
  rw [show (Value.agg (eSt ⟨code, from_, data, fin, again, idle, left⟩ xo xc).toArray).cells.toList = [.int .i64 code, .int .i64 from_, .slice xo data.length xc, .bool fin, .bool again, .bool idle, .int .i64 left] from rfl]
  cases fin with
  | true =>
    repeat (first | (apply G.ex (hd := rfl); case h => (first | exact Ex.move rfl | exact Ex.fieldB rfl | exact Ex.loadB rfl rfl | exact Ex.add rfl rfl (by omega) | exact Ex.lenSl rfl | exact Ex.assign rfl)) | refine G.nil ?_ | refine GC.seq ?_ | refine GC.region ?_ | refine GC.ret ?_ | refine GE.then_normal ?_ | refine GC.cond_t rfl ?_)
    refine GE.ret (by first | exact .inl rfl | exact .inr rfl) (res1 Try.results53 rfl) ⟨rfl, rfl⟩ (by repeat first | exact tn_ | apply td_ rfl | apply tc_ | exact .here | apply Take1.there) (by repeat (first | exact Subs.refl | refine Subs.skip ?_))
  | false =>
    repeat (first | (apply G.ex (hd := rfl); case h => (first | exact Ex.move rfl | exact Ex.fieldB rfl | exact Ex.loadB rfl rfl | exact Ex.add rfl rfl (by omega) | exact Ex.lenSl rfl | exact Ex.assign rfl)) | refine G.nil ?_ | refine GC.seq ?_ | refine GC.region ?_ | refine GC.skip ?_ | refine GC.ret ?_ | refine GE.then_normal ?_ | refine GC.cond_f rfl ?_)
    refine GE.ret (by first | exact .inl rfl | exact .inr rfl) (res1 Try.results53 rfl) ⟨rfl, rfl⟩ (by repeat first | exact tn_ | apply td_ rfl | apply tc_ | exact .here | apply Take1.there) (by repeat (first | exact Subs.refl | refine Subs.skip ?_))
set_option maxHeartbeats 4000000 in
theorem submit_sp (hb : Nat) (s : Se) (hk : SOk s) (da : Option Addr) (dc : Nat) (mo : Option Addr) (mc : Nat) (bo : Option Addr) (bc : Nat) (b : List UInt8) (hbl : b.length ≤ 1000000000) :
    Spec Try.prog 30 [.pointer (some (badr hb 0)), .slice bo b.length bc] [.blk hb 79 [.slice da (s).data.length dc, .bool (s).closed, .int .i64 (s).done, .slice mo (s).more.length mc, .int .i64 (s).next, .int .i64 (s).again, .int .i64 (s).edge], .vec 5 1 da s.data.length dc (flat eB s.data), .sl bo b.length bc 1 (flat eB b)] fun v give => ∃ da' dc', v = .int .i64 (submitF s b).1 ∧ give = [.blk hb 79 [.slice da' ((submitF s b).2).data.length dc', .bool ((submitF s b).2).closed, .int .i64 ((submitF s b).2).done, .slice mo ((submitF s b).2).more.length mc, .int .i64 ((submitF s b).2).next, .int .i64 ((submitF s b).2).again, .int .i64 ((submitF s b).2).edge], .vec 5 1 da' (submitF s b).2.data.length dc' (flat eB (submitF s b).2.data)] := by
  have hl := hk.len
  obtain ⟨data, closed, done, more, next, again, edge⟩ := s
  simp only at hl ⊢
  refine Spec.intro Try.func30 rfl Try.ntmps30 rfl fun w0 rest rs_ hrs_ => ?_
  simp only [List.cons_append, List.nil_append] at hrs_
  subst hrs_
  cases closed with
  | true =>
    repeat (first | (apply G.ex (hd := rfl); case h => (first | exact Ex.move rfl | exact Ex.nilCheck rfl | exact Ex.fieldB rfl | exact Ex.loadB rfl rfl | exact Ex.assign rfl)) | refine G.nil ?_ | refine GC.seq ?_ | refine GC.region ?_ | refine GC.block ?_ | refine GC.ret ?_ | refine GE.then_normal ?_ | refine GE.then_ret ?_ | refine GE.block_ret ?_ | refine GC.cond_t rfl ?_)
    refine GE.ret (by first | exact .inl rfl | exact .inr rfl) (res1 Try.results30 rfl) ⟨da, dc, rfl, rfl⟩ (by repeat first | exact tn_ | apply td_ rfl | apply tc_ | exact .here | apply Take1.there) (by repeat (first | exact Subs.refl | refine Subs.skip ?_))
  | false =>
    unfold submitF
    simp only [Bool.false_eq_true, if_false]
    by_cases h1 : 4096 < b.length
    · rw [if_pos h1]
      repeat (first | (apply G.ex (hd := rfl); case h => (first | exact Ex.move rfl | exact Ex.nilCheck rfl | exact Ex.fieldB rfl | exact Ex.loadB rfl rfl | exact Ex.gtr rfl rfl | exact Ex.lenSl rfl | exact Ex.assign rfl)) | refine G.nil ?_ | refine GC.seq ?_ | refine GC.region ?_ | refine GC.block ?_ | refine GC.ret ?_ | refine GE.then_normal ?_ | refine GE.then_ret ?_ | refine GE.block_ret ?_ | refine GC.cond_yes rfl (by first | assumption | omega) ?_ | refine GC.cond_f rfl ?_)
      refine GE.ret (by first | exact .inl rfl | exact .inr rfl) (res1 Try.results30 rfl) ⟨da, dc, rfl, rfl⟩ (by repeat first | exact tn_ | apply td_ rfl | apply tc_ | exact .here | apply Take1.there) (by repeat (first | exact Subs.refl | refine Subs.skip ?_))
    · rw [if_neg h1]
      by_cases h2 : 1048576 ≤ data.length + b.length
      · rw [if_pos h2]
        repeat (first | (apply G.ex (hd := rfl); case h => (first | exact Ex.move rfl | exact Ex.nilCheck rfl | exact Ex.fieldB rfl | exact Ex.loadB rfl rfl | exact Ex.add rfl rfl (by omega) | exact Ex.gtr rfl rfl | exact Ex.geq rfl rfl | exact Ex.lenSl rfl | exact Ex.assign rfl)) | refine G.nil ?_ | refine GC.seq ?_ | refine GC.region ?_ | refine GC.block ?_ | refine GC.ret ?_ | refine GE.then_normal ?_ | refine GE.then_ret ?_ | refine GE.block_ret ?_ | refine GC.cond_yes rfl (by first | assumption | omega) ?_ | refine GC.cond_no rfl (by first | assumption | omega) ?_ | refine GC.cond_f rfl ?_)
        refine GE.ret (by first | exact .inl rfl | exact .inr rfl) (res1 Try.results30 rfl) ⟨da, dc, rfl, rfl⟩ (by repeat first | exact tn_ | apply td_ rfl | apply tc_ | exact .here | apply Take1.there) (by repeat (first | exact Subs.refl | refine Subs.skip ?_))
      · rw [if_neg h2]
        have hcat : flat eB data ++ flat eB b = flat eB (data ++ b) := (flat_append ..).symm
        repeat (first | (apply G.ex (hd := rfl); case h => (first | exact Ex.move rfl | exact Ex.nilCheck rfl | exact Ex.fieldB rfl | exact Ex.loadB rfl rfl | exact Ex.add rfl rfl (by omega) | exact Ex.gtr rfl rfl | exact Ex.geq rfl rfl | exact Ex.lenSl rfl | exact Ex.assign rfl)) | refine G.nil ?_ | refine GC.seq ?_ | refine GC.region ?_ | refine GC.block ?_ | refine GC.skip ?_ | refine GE.then_normal ?_ | refine GE.block_normal ?_ | refine GC.cond_no rfl (by first | assumption | omega) ?_ | refine GC.cond_f rfl ?_)
        refine G.app rfl rfl (by rfl) (by omega) rfl (hcat) (fun a2 c2 rs_ hrs_ => ?_)
        try simp only at hrs_
        subst hrs_
        repeat (first | refine G.storeB rfl rfl rfl rfl rfl ?_ | (apply G.ex (hd := rfl); case h => (first | exact Ex.nilCheck rfl | exact Ex.fieldB rfl | exact Ex.assign rfl)) | refine G.nil ?_ | refine GC.seq ?_ | refine GC.region ?_ | refine GC.ret ?_ | refine GE.then_normal ?_)
        rw [show data.length + b.length = (data ++ b).length from List.length_append.symm]
        refine GE.ret (by first | exact .inl rfl | exact .inr rfl) (res1 Try.results30 rfl) ⟨a2, c2, rfl, rfl⟩ (by repeat first | exact tn_ | apply td_ rfl | apply tc_ | exact .here | apply Take1.there) (by repeat (first | exact Subs.refl | refine Subs.skip ?_))
end send
end Go.Proofs.Ytcllddkhnbnigaa
