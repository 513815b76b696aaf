/-
  CONTRACTS of who hears: beyond and keep, by the kit.
-/
import Derived.Test.YtcllddkhnbnigaaRecvA
import Derived.Test.YtcllddkhnbnigaaKitM2
namespace Go.Proofs.Ytcllddkhnbnigaa
open Go.RowKit
attribute [local irreducible] Ex G GC GE Gq FPost LPost
set_option linter.unusedVariables false
set_option linter.unusedSimpArgs false
namespace recv
open hole
theorem last_eq (d : Int) (l : List R) (h : 0 < l.length) : last d l = (l.getD (l.length - 1) default).2 := by
  have e : l = l.take (l.length - 1) ++ [l.getD (l.length - 1) default] := by
    conv => lhs; rw [← List.take_append_drop (l.length - 1) l]
    rw [List.drop_eq_getElem_cons (by omega), List.getD_eq_getElem?_getD, List.getElem?_eq_getElem (by omega), List.drop_eq_nil_of_le (by omega)]; rfl
  rw [e, last_app]
  rw [← e]; rfl
theorem beyond_sp (hb : Nat) (room done taken end_ : Int) (da : Option Addr) (dn dc : Nat) (mo : Option Addr) (mc : Nat) (more : List R) (hm : more.length ≤ 1000) :
    Spec Try.prog 59 [.pointer (some (badr hb 0))] [.blk hb 81 [.int .i64 room, .slice da dn dc, .int .i64 done, .slice mo more.length mc, .int .i64 taken, .int .i64 end_], .sl mo more.length mc 2 (flat eR more)] fun v give => v = .int .i64 (last done more) ∧ give = [.blk hb 81 [.int .i64 room, .slice da dn dc, .int .i64 done, .slice mo more.length mc, .int .i64 taken, .int .i64 end_], .sl mo more.length mc 2 (flat eR more)] := by
  refine Spec.intro Try.func59 rfl Try.ntmps59 rfl fun w0 rest rs_ hrs_ => ?_
  simp only [List.cons_append, List.nil_append] at hrs_
  subst hrs_
  repeat (first | (apply G.ex (hd := rfl); case h => (first | exact Ex.move rfl | exact Ex.nilCheck rfl | exact Ex.fieldB rfl | exact Ex.loadB rfl rfl | exact Ex.gtr rfl rfl | exact Ex.lenSl rfl | exact Ex.assign rfl)) | refine G.nil ?_ | refine GC.seq ?_ | refine GC.region ?_ | refine GE.then_normal ?_)
  refine GC.cond_dec rfl (fun hgt => ?_) (fun hgt => ?_)
  · have hpos : 0 < more.length := by omega
    repeat (first | (apply G.ex (hd := rfl); case h => (first | exact Ex.move rfl | exact Ex.nilCheck rfl | exact Ex.fieldE rfl | exact Ex.fieldB rfl | exact Ex.loadB rfl rfl | exact Ex.sub rfl rfl (by omega) | exact Ex.loadT rfl (by first | omega | (simp; done) | (simp; omega)) rfl | exact Ex.assign rfl | exact Ex.indexI rfl rfl (by omega))) | refine G.nil ?_ | refine GC.seq ?_ | refine GC.region ?_ | refine GC.ret ?_ | refine GE.then_normal ?_ | refine GE.then_ret ?_)
    rw [show (more.length : Int) - 1 = ((more.length - 1 : Nat) : Int) by omega]
    repeat (first | fail)
    refine GE.ret (by first | exact .inl rfl | exact .inr rfl) (res1 Try.results59 rfl) ⟨by rw [last_eq done more hpos, Int.toNat_natCast], rfl⟩ (by repeat first | exact tn_ | apply td_ rfl | apply tc_ | exact .here | apply Take1.there) (by repeat (first | exact Subs.refl | refine Subs.skip ?_))
  · have e : more = [] := List.eq_nil_of_length_eq_zero (by omega)
    repeat (first | (apply G.ex (hd := rfl); case h => (first | exact Ex.move rfl | exact Ex.nilCheck rfl | exact Ex.fieldB rfl | exact Ex.loadB rfl rfl | exact Ex.assign rfl)) | refine G.nil ?_ | refine GC.seq ?_ | refine GC.region ?_ | refine GC.skip ?_ | refine GC.ret ?_ | refine GE.then_normal ?_)
    refine GE.ret (by first | exact .inl rfl | exact .inr rfl) (res1 Try.results59 rfl) ⟨by rw [e]; rfl, rfl⟩ (by repeat first | exact tn_ | apply td_ rfl | apply tc_ | exact .here | apply Take1.there) (by repeat (first | exact Subs.refl | refine Subs.skip ?_))
theorem ext_cells (data : List UInt8) (m : Nat) : flat eB data ++ zrep [.int .u8 0] m = flat eB (ext data (data.length + m)) := by
  unfold ext
  rw [flat_append, Nat.add_sub_cancel_left]
  congr 1
  exact (flat_rep eB (0 : UInt8) m).symm
set_option maxHeartbeats 4000000 in
theorem keep_sp (hb : Nat) (room done taken end_ : Int) (da : Option Addr) (dc : Nat) (data : List UInt8) (mo : Option Addr) (mc : Nat) (more : List R) (bo : Option Addr) (bc : Nat) (b : List UInt8) (f : Nat) (hd : data.length ≤ 40000) (hf : f + b.length ≤ 40000) (hm : more.length ≤ 16) :
    Spec Try.prog 60 [.pointer (some (badr hb 0)), .int .i64 (f : Int), .slice bo b.length bc] [.blk hb 81 [.int .i64 room, .slice da data.length dc, .int .i64 done, .slice mo more.length mc, .int .i64 taken, .int .i64 end_], .vec 5 1 da (data).length dc (flat eB (data)), .sl mo more.length mc 2 (flat eR more), .sl bo b.length bc 1 (flat eB b)] fun v give => ∃ da' dc', v = .tuple #[] ∧ give = [.blk hb 81 [.int .i64 room, .slice da' (keepF data more f b).length dc', .int .i64 done, .slice mo more.length mc, .int .i64 taken, .int .i64 end_], .vec 5 1 da' (keepF data more f b).length dc' (flat eB (keepF data more f b)), .sl mo more.length mc 2 (flat eR more), .sl bo b.length bc 1 (flat eB b)] := by
  refine Spec.intro Try.func60 rfl Try.ntmps60 rfl fun w0 rest rs_ hrs_ => ?_
  simp only [List.cons_append, List.nil_append] at hrs_
  subst hrs_
  repeat (first | refine GC.seq ?_ | refine GC.region ?_)
  refine G.box rfl rfl rfl (fun fb => ?_)
  repeat ((fail_if_success (refine GC.seq ?_; refine GC.region (id := 2) ?_)); first | refine G.nil ?_ | (apply Gq.ex (hd := rfl); case h => (first | exact Ex.move rfl | exact Ex.nilCheck rfl | exact Ex.fieldB rfl | exact Ex.loadB rfl rfl | exact Ex.add rfl rfl (by omega) | exact Ex.sub rfl rfl (by omega) | exact Ex.lenSl rfl | exact Ex.assign rfl)) | refine Gq.nil ?_ | refine GC.seq ?_ | refine GC.draw (by kernel_rfl) (by kernel_rfl) ?_ | refine GE.then_normal ?_)
  refine GC.meet (ι := Option Addr × Nat) (fun _ => True) (fun x => [(0, .pointer (some (badr hb 0))), (2, .slice bo b.length bc), (4, .pointer (some (badr fb 0)))]) (fun x => [.blk fb 3 [.int .i64 (f : Int)], .blk hb 81 [.int .i64 room, .slice x.1 (ext data (f + b.length)).length x.2, .int .i64 done, .slice mo more.length mc, .int .i64 taken, .int .i64 end_], .vec 5 1 x.1 (ext data (f + b.length)).length x.2 (flat eB (ext data (f + b.length))), .sl mo more.length mc 2 (flat eR more), .sl bo b.length bc 1 (flat eB b)]) rest ?_ ?_
  · by_cases hgt : data.length < f + b.length
    · obtain ⟨m, hm0, hm1⟩ : ∃ m : Nat, 0 < m ∧ data.length + m = f + b.length := ⟨f + b.length - data.length, by omega, by omega⟩
      have hcat := ext_cells data m
      rw [hm1] at hcat
      have hel : (ext data (f + b.length)).length = data.length + m := by rw [ext_len]; omega
      rw [show (f : Int) + (b.length : Int) - (data.length : Int) = (m : Int) by omega]
      have hm0' : 0 < (m : Int) := by omega
      repeat (first | (apply G.ex (hd := rfl); case h => (first | exact Ex.move rfl | exact Ex.nilCheck rfl | exact Ex.fieldB rfl | exact Ex.loadB rfl rfl | exact Ex.gtr rfl rfl)) | refine G.nil ?_ | refine GC.seq ?_ | refine GC.region ?_ | refine GE.then_normal ?_ | refine GC.cond_yes rfl (by first | assumption | omega) ?_)
      refine G.appMake rfl rfl (by omega) rfl (by rfl) (by rfl) (by omega) rfl (hcat) (fun a2 c2 rs_ hrs_ => ?_)
      try simp only at hrs_
      subst hrs_
      repeat (first | refine G.storeB rfl rfl rfl rfl rfl ?_ | (apply G.ex (hd := rfl); case h => (first | exact Ex.nilCheck rfl | exact Ex.fieldB rfl)) | refine G.nil ?_)
      rw [← hel]
      refine GE.meet (a2, c2) trivial (by simp only [fits]; repeat (first | exact trivial | refine And.intro rfl ?_)) (by repeat first | exact tn_ | apply td_ rfl | apply tc_ | exact .here | apply Take1.there) (by repeat (first | exact Subs.refl | refine Subs.skip ?_))
    · have hgt' : ¬ 0 < (f : Int) + (b.length : Int) - (data.length : Int) := by omega
      have he := ext_le data (f + b.length) (by omega)
      repeat (first | (apply G.ex (hd := rfl); case h => (first | exact Ex.move rfl | exact Ex.gtr rfl rfl)) | refine G.nil ?_ | refine GC.seq ?_ | refine GC.region ?_ | refine GC.skip ?_ | refine GE.then_normal ?_ | refine GC.cond_no rfl (by first | assumption | omega) ?_)
      rw [show flat eB data = flat eB (ext data (f + b.length)) by rw [he], show data.length = (ext data (f + b.length)).length by rw [he]]
      refine GE.meet (da, dc) trivial (by simp only [fits]; repeat (first | exact trivial | refine And.intro rfl ?_)) (by repeat first | exact tn_ | apply td_ rfl | apply tc_ | exact .here | apply Take1.there) (by repeat (first | exact Subs.refl | refine Subs.skip ?_))
  rintro ⟨da1, dc1⟩ - fr_ rs_ hfr_ hrs_
  simp only [List.cons_append, List.nil_append] at hfr_ hrs_
  subst hfr_ hrs_
  have hel : (ext data (f + b.length)).length = max data.length (f + b.length) := ext_len ..
  repeat (first | (apply G.ex (hd := rfl); case h => (first | exact Ex.move rfl | exact Ex.lenSl rfl)) | refine G.nil ?_ | refine GC.seq ?_ | refine GC.region ?_ | refine GC.block ?_ | refine GE.then_normal ?_)
  rw [show flat eB (ext data (f + b.length)) = flat eB (putN more f b (ext data (f + b.length)) 0) from rfl]
  refine GC.loop (ι := Nat) (fun i => i ≤ b.length) (fun i => b.length - i) (fun i => [(0, .pointer (some (badr hb 0))), (4, .pointer (some (badr fb 0))), (31, .slice bo b.length bc), (32, .int .i64 (b.length : Int)), (33, .int .i64 (i : Int))]) (fun i => [.blk fb 3 [.int .i64 (f : Int)], .blk hb 81 [.int .i64 room, .slice da1 (ext data (f + b.length)).length dc1, .int .i64 done, .slice mo more.length mc, .int .i64 taken, .int .i64 end_], .vec 5 1 da1 (ext data (f + b.length)).length dc1 (flat eB (putN more f b (ext data (f + b.length)) i)), .sl mo more.length mc 2 (flat eR more), .sl bo b.length bc 1 (flat eB b)]) 0 (Nat.zero_le _) (by simp only [fits]; repeat (first | exact trivial | refine And.intro rfl ?_)) (by repeat first | exact tn_ | apply td_ rfl | apply tc_ | exact .here | apply Take1.there) ?_
  rintro i hi fr_ rs_ hfr_ hrs_
  simp only [List.cons_append, List.nil_append] at hfr_ hrs_
  subst hfr_ hrs_
  have hpl := putN_len more f b (ext data (f + b.length)) i
  repeat (first | (apply G.ex (hd := rfl); case h => (first | exact Ex.lss rfl rfl)) | refine G.nil ?_ | refine GC.seq ?_ | refine GC.region ?_ | refine GE.then_normal ?_)
  refine GC.cond_dec rfl (fun hlt => ?_) (fun hlt => ?_)
  · have hlt : i < b.length := by omega
    have hsucc := putN_succ more f b (ext data (f + b.length)) i
    repeat (first | (apply G.ex (hd := rfl); case h => (first | exact Ex.move rfl | exact Ex.indexN rfl rfl (by first | omega | (simp; done) | (simp; omega)) | exact Ex.loadT0 rfl (by first | omega | (simp; done) | (simp; omega)) rfl)) | refine GC.seq ?_ | refine GC.region ?_ | refine GC.block ?_ | refine GC.skip ?_ | refine GE.then_normal ?_)
    refine G.alloc rfl (fun ib => ?_)
    repeat (first | refine G.storeB rfl rfl rfl rfl rfl ?_ | (apply G.ex (hd := rfl); case h => (first | exact Ex.move rfl | exact Ex.nilCheck rfl | exact Ex.fieldB rfl | exact Ex.loadB rfl rfl | exact Ex.assign rfl | exact Ex.mkFunc rfl)) | refine G.nil ?_ | refine GC.seq ?_ | refine GC.region ?_ | refine GE.then_normal ?_)
    first | refine G.call (containsR_sp (.sl mo more.length mc 2 (flat eR more)) mo more.length mc more rfl (by omega) fb ib f i (by omega)) rfl rfl rfl rfl (by repeat first | exact tn_ | apply td_ rfl | apply tc_ | exact .here | apply Take1.there) ?_ | refine G.callU (containsR_sp (.sl mo more.length mc 2 (flat eR more)) mo more.length mc more rfl (by omega) fb ib f i (by omega)) rfl rfl rfl (by repeat first | exact tn_ | apply td_ rfl | apply tc_ | exact .here | apply Take1.there) ?_
    rintro v_ give_ ⟨rfl, rfl⟩ rs_ hrs_
    simp only [List.cons_append, List.nil_append] at hrs_
    subst hrs_
    cases hin : innB more ((f + i : Nat) : Int) with
    | true =>
      rw [hin, if_pos rfl] at hsucc
      have htt : ¬ ¬ true = true := fun h => h rfl
      repeat (first | (apply G.ex (hd := rfl); case h => (first | exact Ex.move rfl | exact Ex.add rfl rfl (by omega) | exact Ex.assign rfl | exact Ex.notB rfl)) | refine G.nil ?_ | refine GC.seq ?_ | refine GC.region ?_ | refine GC.skip ?_ | refine GE.then_normal ?_ | refine GE.block_normal ?_ | refine GC.cond_no rfl (by first | assumption | omega) ?_)
      rw [← hsucc, show (i : Int) + 1 = ((i + 1 : Nat) : Int) by omega]
      refine GE.loop (i + 1) (by omega) (by omega) (by simp only [fits]; repeat (first | exact trivial | refine And.intro rfl ?_)) (by repeat first | exact tn_ | apply td_ rfl | apply tc_ | exact .here | apply Take1.there) (by repeat (first | exact Subs.refl | refine Subs.skip ?_))
    | false =>
      rw [hin, if_neg (by decide)] at hsucc
      have hff : ¬ false = true := by decide
      repeat (first | (apply G.ex (hd := rfl); case h => (first | exact Ex.move rfl | exact Ex.assign rfl | exact Ex.notB rfl)) | refine G.nil ?_ | refine GC.seq ?_ | refine GC.region ?_ | refine GE.then_normal ?_ | refine GC.cond_yes rfl (by first | assumption | omega) ?_)
      refine GC.drawA [9] [.blk hb 81 [.int .i64 room, .slice da1 (ext data (f + b.length)).length dc1, .int .i64 done, .slice mo more.length mc, .int .i64 taken, .int .i64 end_], .vec 5 1 da1 (ext data (f + b.length)).length dc1 (flat eB (putN more f b (ext data (f + b.length)) i)), .blk fb 3 [.int .i64 (f : Int)], .blk ib 3 [.int .i64 (i : Int)]] (by repeat first | exact tn_ | apply td_ rfl | apply tc_ | exact .here | apply Take1.there) (by kernel_rfl) ?_
      first | (apply GA.take [] (hD := .inl rfl) (hsub := ⟨_, Takes.nil⟩) (i := 0) (hi := rfl) (hs := by kernel_rfl) (hfr := by kernel_rfl) (hr := by kernel_rfl) (hQ := np_) (hd := rfl); case hx => (first | exact Ex.move rfl))
      first | (apply GA.take [] (hD := .inl rfl) (hsub := ⟨_, Takes.nil⟩) (i := 1) (hi := rfl) (hs := by kernel_rfl) (hfr := by kernel_rfl) (hr := by kernel_rfl) (hQ := np_) (hd := rfl); case hx => (first | exact Ex.nilCheck rfl))
      first | (apply GA.take [] (hD := .inl rfl) (hsub := ⟨_, Takes.nil⟩) (i := 2) (hi := rfl) (hs := by kernel_rfl) (hfr := by kernel_rfl) (hr := by kernel_rfl) (hQ := np_) (hd := rfl); case hx => (first | exact Ex.fieldB rfl))
      first | (apply GA.take _ (hD := .inr ⟨rfl, by kernel_rfl⟩) (hsub := ⟨_, (by repeat first | exact tn_ | apply td_ rfl | apply tc_ | exact .here | apply Take1.there)⟩) (i := 3) (hi := rfl) (hs := by kernel_rfl) (hfr := by kernel_rfl) (hr := by kernel_rfl) (hQ := np_) (hd := rfl); case hx => (first | exact Ex.loadB rfl rfl))
      first | (apply GA.take _ (hD := .inr ⟨rfl, by kernel_rfl⟩) (hsub := ⟨_, (by repeat first | exact tn_ | apply td_ rfl | apply tc_ | exact .here | apply Take1.there)⟩) (i := 4) (hi := rfl) (hs := by kernel_rfl) (hfr := by kernel_rfl) (hr := by kernel_rfl) (hQ := np_) (hd := rfl); case hx => (first | exact Ex.loadB rfl rfl))
      first | (apply GA.take _ (hD := .inr ⟨rfl, by kernel_rfl⟩) (hsub := ⟨_, (by repeat first | exact tn_ | apply td_ rfl | apply tc_ | exact .here | apply Take1.there)⟩) (i := 5) (hi := rfl) (hs := by kernel_rfl) (hfr := by kernel_rfl) (hr := by kernel_rfl) (hQ := np_) (hd := rfl); case hx => (first | exact Ex.loadB rfl rfl))
      first | (apply GA.take [] (hD := .inl rfl) (hsub := ⟨_, Takes.nil⟩) (i := 6) (hi := rfl) (hs := by kernel_rfl) (hfr := by kernel_rfl) (hr := by kernel_rfl) (hQ := np_) (hd := rfl); case hx => (first | exact Ex.add rfl rfl (by omega)))
      rw [show (f : Int) + (i : Int) = ((f + i : Nat) : Int) by omega]
      first | (apply GA.take [] (hD := .inl rfl) (hsub := ⟨_, Takes.nil⟩) (i := 7) (hi := rfl) (hs := by kernel_rfl) (hfr := by kernel_rfl) (hr := by kernel_rfl) (hQ := np_) (hd := rfl); case hx => (first | exact Ex.move rfl))
      first | (apply GA.take _ (hD := .inr ⟨rfl, by kernel_rfl⟩) (hsub := ⟨_, (by repeat first | exact tn_ | apply td_ rfl | apply tc_ | exact .here | apply Take1.there)⟩) (i := 8) (hi := rfl) (hs := by kernel_rfl) (hfr := by kernel_rfl) (hr := by kernel_rfl) (hQ := np_) (hd := rfl); case hx => (first | exact Ex.indexN rfl rfl (by first | omega | (simp; done) | (simp; omega))))
      refine GA.one (i := 9) (by kernel_rfl) rfl ?_
      first | refine G.storeT0 rfl rfl rfl rfl (by first | omega | (simp; omega)) rfl ((b.getD i default)) (rfl) (fun rs_ hrs_ => ?_) | refine G.storeT rfl rfl rfl rfl (by first | omega | (simp; omega)) rfl ((b.getD i default)) (rfl) (fun rs_ hrs_ => ?_) | refine G.storeTA rfl rfl (by first | omega | (simp; omega)) rfl ((b.getD i default)) (rfl) (fun rs_ hrs_ => ?_)
      try simp only at hrs_
      subst hrs_
      try refine G.nil ?_
      refine GA.back (by first | exact .inl (by decide) | exact .inr ⟨_, (by repeat first | exact tn_ | apply td_ rfl | apply tc_ | exact .here | apply Take1.there)⟩) ?_
      refine GA.done (by kernel_rfl) ?_
      rw [← hsucc]
      repeat (first | (apply G.ex (hd := rfl); case h => (first | exact Ex.move rfl | exact Ex.add rfl rfl (by omega))) | refine G.nil ?_ | refine GC.region ?_ | refine GE.then_normal ?_ | refine GE.block_normal ?_)
      rw [show (i : Int) + 1 = ((i + 1 : Nat) : Int) by omega]
      refine GE.loop (i + 1) (by omega) (by omega) (by simp only [fits]; repeat (first | exact trivial | refine And.intro rfl ?_)) (by repeat first | exact tn_ | apply td_ rfl | apply tc_ | exact .here | apply Take1.there) (by repeat (first | exact Subs.refl | refine Subs.skip ?_))
  · obtain rfl : i = b.length := by omega
    repeat (first | refine GC.exit ?_ | refine GE.then_exit ?_ | refine GE.block_hit ?_)
    rw [show (ext data (f + b.length)).length = (keepF data more f b).length from (putN_len ..).symm]
    refine GE.ret (by first | exact .inl rfl | exact .inr rfl) (res0 Try.results60) ⟨da1, dc1, rfl, rfl⟩ (by repeat first | exact tn_ | apply td_ rfl | apply tc_ | exact .here | apply Take1.there) (by repeat (first | exact Subs.refl | refine Subs.skip ?_))
end recv
end Go.Proofs.Ytcllddkhnbnigaa
