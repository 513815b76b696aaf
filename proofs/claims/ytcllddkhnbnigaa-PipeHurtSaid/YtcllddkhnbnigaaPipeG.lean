/-
  CONTRACT of the wire's New and Play, by the kit.
-/
import Derived.Test.YtcllddkhnbnigaaPipeF
namespace Go.Proofs.Ytcllddkhnbnigaa
open Go.RowKit
attribute [local irreducible] Ex G GC GE Gq FPost LPost
set_option linter.unusedVariables false
set_option linter.unusedSimpArgs false
namespace pipe
open hole
set_option maxHeartbeats 1000000 in
theorem new_sp (first room : Int) : Spec Try.prog 17 [.agg #[.int .i64 first, .int .i64 room]] [] fun v give => ∃ wb m, MW m (newW first room) ∧ v = .pointer (some (badr wb 0)) ∧ give = [.own (Star (wR wb m (newW first room)))] := by
  refine Spec.intro Try.func17 rfl Try.ntmps17 rfl fun w0 rest rs_ hrs_ => ?_
  simp only [List.cons_append, List.nil_append] at hrs_
  subst hrs_
  repeat (first | refine GC.seq ?_ | refine GC.region ?_)
  refine G.box rfl rfl rfl (fun lb => ?_)
  rw [show (Value.agg #[.int .i64 first, .int .i64 room]).cells.toList = [.int .i64 first, .int .i64 room] from rfl]
  repeat (first | (apply G.ex (hd := rfl); case h => (first | exact Ex.assign rfl)) | refine G.nil ?_ | refine GC.seq ?_ | refine GE.then_normal ?_)
  refine GC.drawA [] [.blk lb 29 [.int .i64 first, .int .i64 room]] (by repeat first | exact tn_ | apply td_ rfl | apply tc_ | exact .here | apply Take1.there) (by kernel_rfl) ?_
  first | (apply GA.take [] (hD := .inl rfl) (hsub := ⟨_, Takes.nil⟩) (i := 0) (hi := rfl) (hs := by kernel_rfl) (hfr := by kernel_rfl) (hr := by kernel_rfl) (hQ := np_) (hd := rfl); case hx => (first | exact Ex.fieldB rfl))
  first | (apply GA.take _ (hD := .inr ⟨rfl, by kernel_rfl⟩) (hsub := ⟨_, (by repeat first | exact tn_ | apply td_ rfl | apply tc_ | exact .here | apply Take1.there)⟩) (i := 1) (hi := rfl) (hs := by kernel_rfl) (hfr := by kernel_rfl) (hr := by kernel_rfl) (hQ := np_) (hd := rfl); case hx => (first | exact Ex.loadB rfl rfl))
  first | (apply GA.take [] (hD := .inl rfl) (hsub := ⟨_, Takes.nil⟩) (i := 2) (hi := rfl) (hs := by kernel_rfl) (hfr := by kernel_rfl) (hr := by kernel_rfl) (hQ := np_) (hd := rfl); case hx => (first | exact Ex.fieldB rfl))
  first | (apply GA.take _ (hD := .inr ⟨rfl, by kernel_rfl⟩) (hsub := ⟨_, (by repeat first | exact tn_ | apply td_ rfl | apply tc_ | exact .here | apply Take1.there)⟩) (i := 3) (hi := rfl) (hs := by kernel_rfl) (hfr := by kernel_rfl) (hr := by kernel_rfl) (hQ := np_) (hd := rfl); case hx => (first | exact Ex.loadB rfl rfl))
  first | (apply GA.take [] (hD := .inl rfl) (hsub := ⟨_, Takes.nil⟩) (i := 5) (hi := rfl) (hs := by kernel_rfl) (hfr := by kernel_rfl) (hr := by kernel_rfl) (hQ := np_) (hd := rfl); case hx => (first | exact Ex.fieldB rfl))
  first | (apply GA.take _ (hD := .inr ⟨rfl, by kernel_rfl⟩) (hsub := ⟨_, (by repeat first | exact tn_ | apply td_ rfl | apply tc_ | exact .here | apply Take1.there)⟩) (i := 6) (hi := rfl) (hs := by kernel_rfl) (hfr := by kernel_rfl) (hr := by kernel_rfl) (hQ := np_) (hd := rfl); case hx => (first | exact Ex.loadB rfl rfl))
  refine GA.one (i := 4) (by kernel_rfl) rfl ?_
  first | refine G.call (caps := []) (send.new_sp room) rfl rfl rfl rfl (by repeat first | exact tn_ | apply td_ rfl | apply tc_ | exact .here | apply Take1.there) ?_ | refine G.callU (caps := []) (send.new_sp room) rfl rfl rfl (by repeat first | exact tn_ | apply td_ rfl | apply tc_ | exact .here | apply Take1.there) ?_
  rintro v_ give_ ⟨sb, rfl, rfl⟩ rs_ hrs_
  simp only [List.cons_append, List.nil_append] at hrs_
  subst hrs_
  try refine G.nil ?_
  refine GA.back (by first | exact .inl (by decide) | exact .inr ⟨_, (by repeat first | exact tn_ | apply td_ rfl | apply tc_ | exact .here | apply Take1.there)⟩) ?_
  refine GA.one (i := 7) (by kernel_rfl) rfl ?_
  first | refine G.call (caps := []) (recv.new_sp room) rfl rfl rfl rfl (by repeat first | exact tn_ | apply td_ rfl | apply tc_ | exact .here | apply Take1.there) ?_ | refine G.callU (caps := []) (recv.new_sp room) rfl rfl rfl (by repeat first | exact tn_ | apply td_ rfl | apply tc_ | exact .here | apply Take1.there) ?_
  rintro v_ give_ ⟨hb, rfl, rfl⟩ rs_ hrs_
  simp only [List.cons_append, List.nil_append] at hrs_
  subst hrs_
  try refine G.nil ?_
  refine GA.back (by first | exact .inl (by decide) | exact .inr ⟨_, (by repeat first | exact tn_ | apply td_ rfl | apply tc_ | exact .here | apply Take1.there)⟩) ?_
  first | (apply GA.take [] (hD := .inl rfl) (hsub := ⟨_, Takes.nil⟩) (i := 8) (hi := rfl) (hs := by kernel_rfl) (hfr := by kernel_rfl) (hr := by kernel_rfl) (hQ := np_) (hd := rfl); case hx => (first | exact Ex.build rfl rfl))
  refine GA.one (i := 9) (by kernel_rfl) rfl ?_
  refine G.box rfl rfl rfl (fun wb => ?_)
  refine G.reblk [.int .i64 first, .pointer (some (badr sb 0)), .pointer (some (badr hb 0)), .slice none 0 0] rfl ?_
  try refine G.nil ?_
  refine GA.back (by first | exact .inl (by decide) | exact .inr ⟨_, (by repeat first | exact tn_ | apply td_ rfl | apply tc_ | exact .here | apply Take1.there)⟩) ?_
  first | (apply GA.take [] (hD := .inl rfl) (hsub := ⟨_, Takes.nil⟩) (i := 10) (hi := rfl) (hs := by kernel_rfl) (hfr := by kernel_rfl) (hr := by kernel_rfl) (hQ := np_) (hd := rfl); case hx => (first | exact Ex.assign rfl))
  refine GA.done (by kernel_rfl) ?_
  repeat (first | refine GC.ret ?_ | refine GE.then_normal ?_)
  refine GE.nilvec 5 1 ?_
  refine GE.nilvec 5 1 ?_
  refine GE.nilvec 92 3 ?_
  refine GE.nilsl 2 ?_
  refine GE.nilsl 2 ?_
  refine GE.conv (fun w_ H_ => Holds.starNil H_) ?_
  refine GE.conv (rs' := _) (fun w_ H_ => Holds.starIns (l := [.blk wb 60 [.int .i64 ((newW first room).first), .pointer (some (badr sb 0)), .pointer (some (badr hb 0)), .slice none (([] : List FrM)).length 0], .vec 92 3 none (([] : List FrM)).length 0 (flat eFr (([] : List FrM))), .own (Star ((([] : List FrM)).map rFr)), .blk sb 79 [.slice none ((newW first room).se).data.length 0, .bool ((newW first room).se).closed, .int .i64 ((newW first room).se).done, .slice none ((newW first room).se).more.length 0, .int .i64 ((newW first room).se).next, .int .i64 ((newW first room).se).again, .int .i64 ((newW first room).se).edge], .vec 5 1 none ((newW first room).se).data.length 0 (flat eB ((newW first room).se).data), .sl none ((newW first room).se).more.length 0 2 (flat eR ((newW first room).se).more), .blk hb 81 [.int .i64 ((newW first room).he).room, .slice none ((newW first room).he).data.length 0, .int .i64 ((newW first room).he).done, .slice none ((newW first room).he).more.length 0, .int .i64 ((newW first room).he).taken, .int .i64 ((newW first room).he).end_], .vec 5 1 none ((newW first room).he).data.length 0 (flat eB ((newW first room).he).data), .sl none ((newW first room).he).more.length 0 2 (flat eR ((newW first room).he).more)]) (H_.take (need := [.blk wb 60 [.int .i64 ((newW first room).first), .pointer (some (badr sb 0)), .pointer (some (badr hb 0)), .slice none (([] : List FrM)).length 0], .vec 92 3 none (([] : List FrM)).length 0 (flat eFr (([] : List FrM))), .own (Star ((([] : List FrM)).map rFr)), .blk sb 79 [.slice none ((newW first room).se).data.length 0, .bool ((newW first room).se).closed, .int .i64 ((newW first room).se).done, .slice none ((newW first room).se).more.length 0, .int .i64 ((newW first room).se).next, .int .i64 ((newW first room).se).again, .int .i64 ((newW first room).se).edge], .vec 5 1 none ((newW first room).se).data.length 0 (flat eB ((newW first room).se).data), .sl none ((newW first room).se).more.length 0 2 (flat eR ((newW first room).se).more), .blk hb 81 [.int .i64 ((newW first room).he).room, .slice none ((newW first room).he).data.length 0, .int .i64 ((newW first room).he).done, .slice none ((newW first room).he).more.length 0, .int .i64 ((newW first room).he).taken, .int .i64 ((newW first room).he).end_], .vec 5 1 none ((newW first room).he).data.length 0 (flat eB ((newW first room).he).data), .sl none ((newW first room).he).more.length 0 2 (flat eR ((newW first room).he).more)]) (by repeat first | exact tn_ | apply td_ rfl | apply tc_ | exact .here | apply Take1.there))) ?_
  try simp only [List.append_eq, List.nil_append, List.cons_append]
  refine GE.ret (by first | exact .inl rfl | exact .inr rfl) (res1 Try.results17 rfl) ⟨wb, ⟨sb, hb, none, 0, none, 0, none, 0, none, 0, none, 0, []⟩, ⟨rfl, Nat.zero_le _, fun x hx => nomatch hx⟩, rfl, rfl⟩ (by repeat first | exact tn_ | apply td_ rfl | apply tc_ | exact .here | apply Take1.there) (by repeat (first | exact Subs.refl | refine Subs.skip ?_))
theorem WOk.ends : ∀ (l : List Ho) (w : Wi) (N : Nat), WOk w N → N + (l.map given).sum ≤ 30000 → (∀ h ∈ l, HoOk h) → WOk (ends w l) (N + (l.map given).sum)
  | [], w, N, k, _, _ => k
  | h :: t, w, N, k, hs, ho => by
    rw [List.map_cons, List.sum_cons] at hs ⊢
    have k1 := k.step h (by omega) (ho h (List.mem_cons_self ..))
    have := WOk.ends t (doF w h).1 (N + given h) k1 (by omega) (fun x hx => ho x (List.mem_cons_of_mem _ hx))
    rw [Nat.add_assoc] at this
    exact this
theorem fs_do (w : Wi) (h : Ho) : (doF w h).1.fs.length ≤ w.fs.length + 1 := by
  have hr : ∀ (u : Wi) t, (replyF u t).1.fs.length ≤ u.fs.length + 1 := by
    intro u t
    unfold replyF
    split
    · exact Nat.le_succ _
    · show (u.fs ++ [_]).length ≤ _; rw [List.length_append]; exact Nat.le_refl _
  cases h with
  | give b => exact Nat.le_succ _
  | shut => exact Nat.le_succ _
  | expire => exact Nat.le_succ _
  | send =>
    show (sendF w).1.fs.length ≤ _
    unfold sendF
    split
    · exact Nat.le_succ _
    · show (w.fs ++ [_]).length ≤ _; rw [List.length_append]; exact Nat.le_refl _
  | hit id a b =>
    show (hitF w id a b).1.fs.length ≤ _
    unfold hitF
    repeat (first | exact Nat.le_succ _ | split)
    show (w.fs.set _ _).length ≤ _; rw [List.length_set]; exact Nat.le_succ _
  | carry id =>
    show (carryF w id).1.fs.length ≤ _
    unfold carryF
    split
    · exact Nat.le_succ _
    · split
      · exact Nat.le_succ _
      · exact hr _ _
  | back id =>
    show (heardF w id).1.fs.length ≤ _
    unfold heardF
    repeat (first | exact Nat.le_succ _ | split)
  | drain n => exact hr _ _
theorem fs_ends : ∀ (l : List Ho) (w : Wi), (ends w l).fs.length ≤ w.fs.length + l.length
  | [], w => Nat.le_refl _
  | h :: t, w => by
    have h1 := fs_do w h
    have h2 := fs_ends t (doF w h).1
    show (ends (doF w h).1 t).fs.length ≤ _
    rw [List.length_cons]; omega
theorem takes_cons (w : Wi) (l : List Ho) (k : Nat) (hk : k < l.length) : runs w (l.take (k + 1)) = runs w (l.take k) ++ [(doF (ends w (l.take k)) (l.getD k default)).2] ∧ ends w (l.take (k + 1)) = (doF (ends w (l.take k)) (l.getD k default)).1 := by
  have e : l.take (k + 1) = l.take k ++ [l.getD k default] := by
    rw [List.take_succ_eq_append_getElem hk, List.getD_eq_getElem?_getD, List.getElem?_eq_getElem hk]; rfl
  rw [e, runs_app, ends_app]; exact ⟨rfl, rfl⟩
theorem sum_take (l : List Nat) (k : Nat) (hk : k < l.length) : (l.take k).sum + l.getD k 0 ≤ l.sum := by
  conv => rhs; rw [← List.take_append_drop k l, List.sum_append, List.drop_eq_getElem_cons hk, List.sum_cons]
  rw [List.getD_eq_getElem?_getD, List.getElem?_eq_getElem hk]
  simp only [Option.getD_some]; omega
def yF (m : PaM) : SlD UInt8 := ⟨m.xo, m.p.data.length, m.xc, m.p.data⟩
/-- hops that may be played -/
structure LOk (L : List HoM) : Prop where
  m : ∀ h ∈ L, HMOk h
  o : ∀ h ∈ L, HoOk (toHo h)
  s : ((L.map toHo).map given).sum ≤ 30000
  n : L.length ≤ 300
set_option maxHeartbeats 8000000 in
theorem play_sp (first room : Int) (hf : 0 ≤ first ∧ first < 65536) (hr : 1 ≤ room ∧ room ≤ 4096) (r : Res) (ao : Option Addr) (n c : Nat) (L : List HoM) (hl : L.length = n) [hR : RdR r ao n c 6 (flat eHo L)] (hL : LOk L) :
    Spec Try.prog 16 [.agg #[.int .i64 first, .int .i64 room], .slice ao n c] [r, .per (Rd eB 1 (L.map (·.d)))] fun v give => ∃ (T : List PaM) (o : Option Addr) (oc : Nat), T.map (·.p) = runs (newW first room) (L.map toHo) ∧ T.length = n ∧ v = .tuple #[.slice o n oc, .int .i64 0] ∧ give = [.vec 39 6 o n oc (flat ePa T), .per (Rd eB 1 (T.map yF)), r, .per (Rd eB 1 (L.map (·.d)))] := by
  have hH : WOk (newW first room) 0 := WOk.new hf hr
  have hLn := hL.n
  refine Spec.intro Try.func16 rfl Try.ntmps16 rfl fun w0 rest rs_ hrs_ => ?_
  simp only [List.cons_append, List.nil_append] at hrs_
  subst hrs_
  repeat (first | refine GC.seq ?_ | refine GC.region ?_)
  refine G.box rfl rfl rfl (fun lb => ?_)
  rw [show (Value.agg #[.int .i64 first, .int .i64 room]).cells.toList = [.int .i64 first, .int .i64 room] from rfl]
  have c1 : ¬ first < 0 := by omega
  have c2 : ¬ 65536 ≤ first := by omega
  have c3 : ¬ room < 1 := by omega
  have c4 : ¬ 4096 < room := by omega
  repeat (first | (apply G.ex (hd := rfl); case h => (first | exact Ex.move rfl | exact Ex.fieldB rfl | exact Ex.loadB rfl rfl | exact Ex.lss rfl rfl | exact Ex.gtr rfl rfl | exact Ex.geq rfl rfl | exact Ex.lenSl rfl | exact Ex.assign rfl | exact Ex.pickF rfl (by first | assumption | omega) rfl | exact Ex.loadBA rfl rfl rfl)) | refine G.g_ff rfl rfl (by first | assumption | omega) ?_ | refine G.nil ?_ | refine GC.seq ?_ | refine GC.region ?_ | refine GC.skip ?_ | refine GE.then_normal ?_ | refine GC.cond_no rfl (by first | assumption | omega) ?_)
  first | refine G.call (caps := []) (new_sp first room) rfl rfl rfl rfl (by repeat first | exact tn_ | apply td_ rfl | apply tc_ | exact .here | apply Take1.there) ?_ | refine G.callU (caps := []) (new_sp first room) rfl rfl rfl (by repeat first | exact tn_ | apply td_ rfl | apply tc_ | exact .here | apply Take1.there) ?_
  rintro v_ give_ ⟨wb, m0, hm0, rfl, rfl⟩ rs_ hrs_
  simp only [List.cons_append, List.nil_append] at hrs_
  subst hrs_
  refine G.conv (fun w_ H_ => Holds.rdNil eB 1 H_) ?_
  first | refine G.nilvec 39 6 ?_ | refine GC.nilvec 39 6 ?_
  repeat (first | (apply G.ex (hd := rfl); case h => (first | exact Ex.move rfl | exact Ex.lenSl rfl | exact Ex.assign rfl)) | refine G.nil ?_ | refine GC.seq ?_ | refine GC.region ?_ | refine GC.block ?_ | refine GE.then_normal ?_)
  have hLl : (L.map toHo).length = n := by rw [List.length_map]; exact hl
  refine GC.loop (ι := Nat × List PaM × WM × (Option Addr × Nat)) (fun x => x.1 ≤ n ∧ x.2.1.map (·.p) = runs (newW first room) ((L.map toHo).take x.1) ∧ x.2.1.length = x.1 ∧ MW x.2.2.1 (ends (newW first room) ((L.map toHo).take x.1))) (fun x => n - x.1) (fun x => [(6, .pointer (some (badr wb 0))), (7, .slice x.2.2.2.1 x.1 x.2.2.2.2), (33, .slice ao n c), (34, .int .i64 (n : Int)), (35, .int .i64 (x.1 : Int))]) (fun x => [.own (Star (wR wb x.2.2.1 (ends (newW first room) ((L.map toHo).take x.1)))), .vec 39 6 x.2.2.2.1 x.1 x.2.2.2.2 (flat ePa x.2.1), .per (Rd eB 1 (x.2.1.map yF)), r, .per (Rd eB 1 (L.map (·.d)))]) (0, [], m0, (none, 0)) ⟨Nat.zero_le _, rfl, rfl, hm0⟩ (by simp only [fits]; repeat (first | exact trivial | refine And.intro rfl ?_)) (by repeat first | exact tn_ | apply td_ rfl | apply tc_ | exact .here | apply Take1.there) ?_
  rintro ⟨k, T, m, ⟨o, oc⟩⟩ ⟨hk, hT, hTl, hm⟩ fr_ rs_ hfr_ hrs_
  simp only [List.cons_append, List.nil_append] at hfr_ hrs_
  subst hfr_ hrs_
  simp only at hk hT hTl hm
  repeat (first | (apply G.ex (hd := rfl); case h => (first | exact Ex.lss rfl rfl)) | refine G.nil ?_ | refine GC.seq ?_ | refine GC.region ?_ | refine GE.then_normal ?_)
  refine GC.cond_dec rfl (fun hlt => ?_) (fun hlt => ?_)
  · have hlt : k < n := by omega
    have hdk : (L.map (·.d)).getD k default = (L.getD k default).d := by
      rw [List.getD_eq_getElem?_getD, List.getElem?_map, List.getD_eq_getElem?_getD, List.getElem?_eq_getElem (show k < L.length by omega)]; rfl
    have hak : (L.map toHo).getD k default = toHo (L.getD k default) := by
      rw [List.getD_eq_getElem?_getD, List.getElem?_map, List.getD_eq_getElem?_getD, List.getElem?_eq_getElem (show k < L.length by omega)]; rfl
    have hmem : L.getD k default ∈ L := by rw [List.getD_eq_getElem?_getD, List.getElem?_eq_getElem (show k < L.length by omega)]; exact List.getElem_mem _
    have hLs := hL.s
    have hst := sum_take ((L.map toHo).map given) k (by rw [List.length_map]; omega)
    rw [show ((L.map toHo).map given).getD k 0 = given (toHo (L.getD k default)) by rw [← hak, List.getD_eq_getElem?_getD, List.getElem?_map, List.getD_eq_getElem?_getD, List.getElem?_eq_getElem (show k < (L.map toHo).length by omega)]; rfl, ← List.map_take] at hst
    have hKk := WOk.ends ((L.map toHo).take k) (newW first room) 0 hH (by omega) (fun h hh => by
      obtain ⟨x, hx, rfl⟩ := List.mem_map.1 (List.mem_of_mem_take hh)
      exact hL.o x hx)
    have hfs := fs_ends ((L.map toHo).take k) (newW first room)
    have hfl : m.FM.length ≤ 999 := by
      rw [← hm.fs, List.length_map, List.length_take] at hfs
      have : (newW first room).fs.length = 0 := rfl
      omega
    have hdo := do_sp wb m _ _ hm hKk hfl (L.getD k default) (hL.m _ hmem) (by omega) (hL.o _ hmem)
    obtain ⟨hruns, hends⟩ := takes_cons (newW first room) (L.map toHo) k (by omega)
    rw [hak] at hruns hends
    refine GC.conv (fun w_ H_ => H_.rdAt (l := L.map (·.d)) (enc := eB) (s := 1) (by simp) k (by rw [List.length_map]; omega)) ?_
    rw [hdk]
    repeat (first | (apply G.ex (hd := rfl); case h => (first | exact Ex.indexN rfl rfl (by first | omega | (simp; done) | (simp; omega)) | exact Ex.loadTA rfl (by first | omega | (simp; done) | (simp; omega)))) | refine GC.seq ?_ | refine GC.region ?_ | refine GC.block ?_ | refine GC.skip ?_ | refine GE.then_normal ?_)
    refine G.alloc rfl (fun ab => ?_)
    repeat (first | refine G.storeBA rfl rfl rfl rfl rfl ?_ | (apply G.ex (hd := rfl); case h => (first | exact Ex.move rfl | exact Ex.loadBA rfl rfl rfl)) | refine G.nil ?_ | refine GC.region ?_ | refine GE.then_normal ?_)
    first | refine G.call (caps := []) (hdo) rfl rfl rfl rfl (by repeat first | exact tn_ | apply td_ rfl | apply tc_ | exact .here | apply Take1.there) ?_ | refine G.callU (caps := []) (hdo) rfl rfl rfl (by repeat first | exact tn_ | apply td_ rfl | apply tc_ | exact .here | apply Take1.there) ?_
    rintro v_ give_ ⟨m', yo, yc, hm', rfl, rfl⟩ rs_ hrs_
    simp only [List.cons_append, List.nil_append] at hrs_
    subst hrs_
    rw [← hends] at hm' ⊢
    generalize (doF (ends (newW first room) ((L.map toHo).take k)) (toHo (L.getD k default))).2 = tt at *
    have hcat : flat ePa T ++ flat ePa [(⟨tt, yo, yc⟩ : PaM)] = flat ePa (T ++ [⟨tt, yo, yc⟩]) := (flat_append ..).symm
    refine G.lit (cells := flat ePa [(⟨tt, yo, yc⟩ : PaM)]) rfl (by rfl) (by rfl) (by rfl) (by rfl) (by rfl) (by rfl) rfl (fun q => ?_)
    refine G.app rfl rfl (by rfl) (by omega) rfl (hcat) (fun o2 oc2 rs_ hrs_ => ?_)
    try simp only at hrs_
    subst hrs_
    refine G.conv (fun w_ H_ => Holds.rdSnoc (x := ⟨yo, tt.data.length, yc, tt.data⟩) (H_.take (need := [.sl yo tt.data.length yc 1 (flat eB tt.data), .per (Rd eB 1 (T.map yF))]) (by repeat first | exact tn_ | apply td_ rfl | apply tc_ | exact .here | apply Take1.there))) ?_
    try simp only [List.append_eq, List.nil_append, List.cons_append]
    rw [show T.map yF ++ [⟨yo, tt.data.length, yc, tt.data⟩] = (T ++ [(⟨tt, yo, yc⟩ : PaM)]).map yF by rw [List.map_append]; rfl]
    repeat (first | (apply G.ex (hd := rfl); case h => (first | exact Ex.move rfl | exact Ex.add rfl rfl (by omega) | exact Ex.assign rfl)) | refine G.nil ?_ | refine GC.region ?_ | refine GE.then_normal ?_ | refine GE.block_normal ?_)
    rw [show (k : Int) + 1 = ((k + 1 : Nat) : Int) by omega]
    refine GE.loop (k + 1, T ++ [⟨tt, yo, yc⟩], m', (o2, oc2)) ⟨by simp only; omega, by simp only; rw [List.map_append, hT, hruns]; rfl, by simp only [List.length_append, hTl]; rfl, hm'⟩ (by simp only; omega) (by simp only [fits]; repeat (first | exact trivial | refine And.intro rfl ?_)) (by repeat first | exact tn_ | apply td_ rfl | apply tc_ | exact .here | apply Take1.there) (by repeat (first | exact Subs.refl | refine Subs.skip ?_))
  · obtain rfl : k = n := by omega
    rw [List.take_of_length_le (by omega)] at hT
    repeat (first | (apply G.ex (hd := rfl); case h => (first | exact Ex.move rfl | exact Ex.assign rfl)) | refine G.nil ?_ | refine GC.seq ?_ | refine GC.region ?_ | refine GC.ret ?_ | refine GC.exit ?_ | refine GE.then_normal ?_ | refine GE.then_exit ?_ | refine GE.block_hit ?_)
    refine GE.ret (by first | exact .inl rfl | exact .inr rfl) (res2 Try.results16 rfl rfl) ⟨T, o, oc, hT, hTl, rfl, rfl⟩ (by repeat first | exact tn_ | apply td_ rfl | apply tc_ | exact .here | apply Take1.there) (by repeat (first | exact Subs.refl | refine Subs.skip ?_))
end pipe
end Go.Proofs.Ytcllddkhnbnigaa
