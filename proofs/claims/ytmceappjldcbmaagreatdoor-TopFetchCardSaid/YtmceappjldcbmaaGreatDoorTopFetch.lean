/-
  CONTRACT of packthreadtop.TopFetch, by the kit.
-/
import Derived.Test.YtmceappjldcbmaaGreatDoorTopFetchP
import Derived.Test.YtmceappjldcbmaaGreatDoorFetchC
import Derived.Test.YtmceappjldcbmaaGreatDoorStreamS
import Derived.Test.YtmceappjldcbmaaGreatDoorUpload
namespace Go.Proofs.YtmceappjldcbmaaGreatDoor
open Go.RowKit
attribute [local irreducible] Ex G GC GE Gq FPost LPost
set_option linter.unusedVariables false
set_option linter.unusedSimpArgs false
namespace fetch
open strm
theorem flat_cutW (l : List Wa) (a b : Nat) : ((flat eW l).drop (a * 2)).take ((b - a) * 2) = flat eW ((l.drop a).take (b - a)) := by
  rw [flat_drop (inferInstance : Enc eW 2), flat_take (inferInstance : Enc eW 2)]
def rqW (w : Wa) : msg.Ms := serve.msN (serve.wR w)
/-- where a round begins -/
structure FS (S : List UInt8) (f1 : Fe) (i : Nat) (f : Fe) (G0 : List GoM) (ws : List Wa) : Prop where
  phi : i + Phi2 S.length f ≤ 42
  inv : FI S f
  low : Low f
  asks : asks f = false
  fin : fin f = false
  gl : G0.length = i
  gok : ∀ m ∈ G0, MOk m
  ends : ends f1 (G0.map toG) = f
  wl : ws.length = i
  wok : ∀ x ∈ ws, 0 ≤ x.1 ∧ x.1 ≤ 2048 ∧ 1 ≤ x.2 ∧ x.2 ≤ 100
set_option maxHeartbeats 32000000 in
set_option maxRecDepth 100000 in
theorem topFetch_sp (a0 : Int) (ha0 : -9223372036854775808 ≤ a0 ∧ a0 ≤ 9223372036854775807) (a1 : Int) (ha1 : -9223372036854775808 ≤ a1 ∧ a1 ≤ 9223372036854775807) (a2 : Option Addr) (len2 cap2 : Nat) (z2 : List Int) (hl2 : z2.length = len2) (hb2 : len2 ≤ 9223372036854775807) (hw2 : ∀ z ∈ z2, -9223372036854775808 ≤ z ∧ z ≤ 9223372036854775807) :
    Spec Tryz.prog 3 [.int .i64 a0, .int .i64 a1, .slice a2 len2 cap2] [.sl a2 len2 cap2 1 (flat (eI .i64) z2), serve.PlainR] fun v give => v = .bool true ∧ give = [] := by
  have hk0 := Int.emod_nonneg a1 (show (900 : Int) ≠ 0 by decide)
  have hk1 := Int.emod_lt_of_pos a1 (show (0 : Int) < 900 by decide)
  obtain ⟨n, hn⟩ : ∃ n : Nat, a1 % 900 = (n : Int) := ⟨(a1 % 900).toNat, by omega⟩
  have hn9 : n ≤ 900 := by omega
  refine Spec.intro Tryz.func3 rfl Tryz.ntmps3 rfl fun w0 rest rs_ hrs_ => ?_
  simp only [List.cons_append, List.nil_append] at hrs_
  subst hrs_
  first | refine G.nilvec 47 3 ?_ | refine GC.nilvec 47 3 ?_
  refine GC.conv (fun w_ H_ => Holds.rdNil eB 1 H_) ?_
  repeat (first | (apply G.ex (hd := rfl); case h => (first | exact Ex.move rfl | exact Ex.assign rfl)) | refine G.nil ?_ | refine GC.seq ?_ | refine GC.region ?_ | refine GE.then_normal ?_)
  first | refine G.call (caps := []) (picked_sp a1 900 (by decide) (by decide)) rfl rfl rfl rfl (by repeat first | exact tn_ | apply td_ rfl | apply tc_ | exact .here | apply Take1.there) ?_ | refine G.callU (caps := []) (picked_sp a1 900 (by decide) (by decide)) rfl rfl rfl (by repeat first | exact tn_ | apply td_ rfl | apply tc_ | exact .here | apply Take1.there) ?_
  rintro v_ give_ ⟨rfl, rfl⟩ rs_ hrs_
  simp only [List.cons_append, List.nil_append] at hrs_
  subst hrs_
  rw [hn]
  repeat (first | fail)
  first | refine G.call (caps := []) (stream_sp a0 n (by omega)) rfl rfl rfl rfl (by repeat first | exact tn_ | apply td_ rfl | apply tc_ | exact .here | apply Take1.there) ?_ | refine G.callU (caps := []) (stream_sp a0 n (by omega)) rfl rfl rfl (by repeat first | exact tn_ | apply td_ rfl | apply tc_ | exact .here | apply Take1.there) ?_
  rintro v_ give_ ⟨so, sc, S, hS, rfl, rfl⟩ rs_ hrs_
  simp only [List.cons_append, List.nil_append] at hrs_
  subst hrs_
  first | refine G.frz so ?_ | refine GC.frz so ?_ | refine GE.frz so ?_
  repeat (first | (apply G.ex (hd := rfl); case h => (first | exact Ex.move rfl | exact Ex.assign rfl)) | refine G.nil ?_ | refine GC.seq ?_ | refine GC.region ?_ | refine GE.then_normal ?_)
  first | refine G.call (caps := []) (serve.upload_sp so n sc S hS (by omega)) rfl rfl rfl rfl (by repeat first | exact tn_ | apply td_ rfl | apply tc_ | exact .here | apply Take1.there) ?_ | refine G.callU (caps := []) (serve.upload_sp so n sc S hS (by omega)) rfl rfl rfl (by repeat first | exact tn_ | apply td_ rfl | apply tc_ | exact .here | apply Take1.there) ?_
  rintro v_ give_ ⟨A, ua, uc, hA, hO, rfl, rfl⟩ rs_ hrs_
  simp only [List.cons_append, List.nil_append] at hrs_
  subst hrs_
  have hUe : A.map (·.r) = serve.upl S := by rw [hA]; unfold serve.upl; rw [hS]
  have hAl : A.length ≤ 20 := by
    have := congrArg List.length hA
    rw [List.length_map, List.length_cons] at this
    unfold serve.chunks serve.nch at this
    rw [List.length_map, List.length_range] at this
    omega
  clear hA
  obtain ⟨p1, p2, p3, p4, p5⟩ := first_step S
  have p7 := first_phi2 S
  have p8 := Low.first
  obtain ⟨f1, hf1⟩ : ∃ f1, f1 = (onF newF []).1 := ⟨_, rfl⟩
  repeat (first | (apply G.ex (hd := rfl); case h => (first | exact Ex.assign rfl)) | refine G.nil ?_ | refine GC.seq ?_ | refine GC.region ?_ | refine GE.then_normal ?_)
  first | refine G.call (caps := []) (play_sp (.vec 47 3 none 0 0 (flat eG [])) none 0 0 [] rfl (by omega) (fun m h => (nomatch h))) rfl rfl rfl rfl (by repeat first | exact tn_ | apply td_ rfl | apply tc_ | exact .here | apply Take1.there) ?_ | refine G.callU (caps := []) (play_sp (.vec 47 3 none 0 0 (flat eG [])) none 0 0 [] rfl (by omega) (fun m h => (nomatch h))) rfl rfl rfl (by repeat first | exact tn_ | apply td_ rfl | apply tc_ | exact .here | apply Take1.there) ?_
  rintro v_ give_ ⟨T0, t0, tc0, hT0, rfl, rfl⟩ rs_ hrs_
  simp only [List.cons_append, List.nil_append] at hrs_
  subst hrs_
  have hT0l : T0.length = 1 := by
    have := congrArg List.length hT0
    rw [List.length_map] at this
    exact this
  have hT00 : (T0.getD 0 default).t = (onF newF []).2 := by
    rw [← getD_mapT (fun x : NeM => x.t) T0 0 (by omega), hT0]; rfl
  have h01 : 0 < T0.length := by omega
  have hT6 : (T0.getD 0 default).t.wants.length = 6 := by rw [hT00]; exact first_six.1
  refine G.conv (fun w_ H_ => H_.rdAt (l := T0.map wF) (enc := eW) (s := 2) (by simp) 0 (by rw [List.length_map]; omega)) ?_
  rw [getD_mapT wF T0 0 h01]
  simp only [wF]
  repeat (first | (apply G.ex (hd := rfl); case h => (first | exact Ex.move rfl | exact Ex.fieldE rfl | exact Ex.neI rfl rfl | exact Ex.lenSl rfl | exact Ex.indexN rfl rfl (by first | omega | (simp; done) | (simp; omega)) | exact Ex.loadT rfl (by first | omega | (simp; done) | (simp; omega)) rfl | exact Ex.extract rfl rfl | exact Ex.assign rfl | exact Ex.pickF rfl (by first | assumption | omega) rfl)) | refine G.g_ff rfl rfl (by first | assumption | omega) ?_ | refine G.nil ?_ | refine GC.seq ?_ | refine GC.region ?_ | refine GC.skip ?_ | refine GE.then_normal ?_ | refine GC.cond_no rfl (by first | assumption | omega) ?_)
  have p6 := first_six.1
  rw [hT00]
  refine G.appNil rfl rfl (by rfl) (by omega) rfl (rfl) (fun ow0 oc0 => ?_)
  rw [← p2, ← hf1]
  rw [← hf1] at p1 p3 p4 p5 p7 p8
  repeat (first | (apply G.ex (hd := rfl); case h => (first | exact Ex.assign rfl)) | refine G.nil ?_ | refine GC.seq ?_ | refine GC.region ?_ | refine GC.block ?_ | refine GE.then_normal ?_)
  refine GC.conv (rs' := [.vec 37 2 ow0 f1.out.length oc0 (flat eW f1.out), .vec 47 3 none 0 0 (flat eG []), .vec 39 9 ua A.length uc (flat msg.eRq A), .per (Rd eB 1 (([] : List GoM).map (·.d))), .per (Rd eB 1 (A.map serve.dM)), .sl so n sc 1 (flat eB S), .sl a2 len2 cap2 1 (flat (eI .i64) z2), serve.PlainR] ++ rest) (fun w_ H_ => ?_) ?_
  · have h_ := H_.take (need := [.vec 37 2 ow0 f1.out.length oc0 (flat eW f1.out), .vec 47 3 none 0 0 (flat eG []), .vec 39 9 ua A.length uc (flat msg.eRq A), .per (Rd eB 1 (([] : List GoM).map (·.d))), .per (Rd eB 1 (A.map serve.dM)), .sl so n sc 1 (flat eB S), .sl a2 len2 cap2 1 (flat (eI .i64) z2), serve.PlainR]) (by repeat first | exact tn_ | apply td_ rfl | apply tc_ | exact .here | apply Take1.there)
    exact subs_app (by repeat (first | exact Subs.refl | refine Subs.skip ?_)) h_
  try simp only [List.append_eq, List.nil_append, List.cons_append]
  rw [show flat msg.eRq A = flat msg.eRq (A ++ ([] : List Wa).map rqW) by rw [List.map_nil, List.append_nil]]
  refine GC.loop (ι := Nat × Fe × (List GoM × Option Addr × Nat) × (Option Addr × Nat) × (List Wa × Option Addr × Nat)) (fun x => FS S f1 x.1 x.2.1 x.2.2.1.1 x.2.2.2.2.1) (fun x => 100 - x.1) (fun x => [(2, .slice a2 len2 cap2), (7, .slice so n sc), (8, .slice x.2.2.2.2.2.1 (A.length + x.1) x.2.2.2.2.2.2), (11, .slice x.2.2.2.1.1 x.2.1.out.length x.2.2.2.1.2), (12, .slice x.2.2.1.2.1 x.1 x.2.2.1.2.2), (13, .int .i64 (x.1 : Int))]) (fun x => [.vec 37 2 x.2.2.2.1.1 x.2.1.out.length x.2.2.2.1.2 (flat eW x.2.1.out), .vec 47 3 x.2.2.1.2.1 x.1 x.2.2.1.2.2 (flat eG x.2.2.1.1), .vec 39 9 x.2.2.2.2.2.1 (A.length + x.1) x.2.2.2.2.2.2 (flat msg.eRq (A ++ x.2.2.2.2.1.map rqW)), .per (Rd eB 1 (x.2.2.1.1.map (·.d))), .per (Rd eB 1 (A.map serve.dM)), .sl so n sc 1 (flat eB S), .sl a2 len2 cap2 1 (flat (eI .i64) z2), serve.PlainR]) (0, f1, ([], none, 0), (ow0, oc0), ([], ua, uc)) ⟨by simp only; omega, p1, p8, p3, p4, rfl, fun m h => (nomatch h), rfl, rfl, fun x h => (nomatch h)⟩ (by simp only [fits]; repeat (first | exact trivial | refine And.intro rfl ?_)) (by repeat first | exact tn_ | apply td_ rfl | apply tc_ | exact .here | apply Take1.there) ?_
  rintro ⟨i, f, ⟨G0, og, ogc⟩, ⟨ow, oc⟩, ⟨ws, rb, rc⟩⟩ hFS fr_ rs_ hfr_ hrs_
  simp only [List.cons_append, List.nil_append] at hfr_ hrs_
  subst hfr_ hrs_
  simp only at hFS
  obtain ⟨hi, hF, hlow, ha, hfin, hGl, hG, hend, hwl, hwok⟩ := hFS
  clear p1 p2 p3 p4 p5 p6 p7 p8 hT0 hT00 hT6 hT0l h01
  have hne := hF.some (by omega) hfin ha
  have hol := hF.ok.len
  have hop : 0 < f.out.length := List.length_pos_iff.2 hne
  have hi2 : (i : Int) < 100 := by omega
  have ho1 : ¬ (f.out.length : Int) = 0 := by omega
  repeat ((fail_if_success (refine GC.seq ?_; refine GC.region (id := 14) ?_)); first | (apply G.ex (hd := rfl); case h => (first | exact Ex.move rfl | exact Ex.lss rfl rfl | exact Ex.eqI rfl rfl | exact Ex.lenSl rfl | exact Ex.assign rfl)) | refine G.nil ?_ | refine GC.seq ?_ | refine GC.region ?_ | refine GC.block ?_ | refine GC.skip ?_ | refine GE.then_normal ?_ | refine GC.cond_yes rfl (by first | assumption | omega) ?_ | refine GC.cond_no rfl (by first | assumption | omega) ?_)
  refine GC.meet (ι := Int) (fun x => -9223372036854775808 ≤ x ∧ x ≤ 9223372036854775807) (fun x => [(2, .slice a2 len2 cap2), (7, .slice so n sc), (8, .slice rb (A.length + i) rc), (11, .slice ow f.out.length oc), (12, .slice og i ogc), (13, .int .i64 (i : Int)), (14, .int .i64 x)]) (fun x => [.vec 37 2 ow f.out.length oc (flat eW f.out), .vec 47 3 og i ogc (flat eG G0), .vec 39 9 rb (A.length + i) rc (flat msg.eRq (A ++ ws.map rqW)), .per (Rd eB 1 (G0.map (·.d))), .per (Rd eB 1 (A.map serve.dM)), .sl so n sc 1 (flat eB S), .sl a2 len2 cap2 1 (flat (eI .i64) z2), serve.PlainR]) (.per (Rd eB 1 (([] : List GoM).map (·.d))) :: .per (Rd eB 1 (A.map serve.dM)) :: .sl so n sc 1 (flat eB S) :: .sl a2 len2 cap2 1 (flat (eI .i64) z2) :: serve.PlainR :: rest) ?_ ?_
  · by_cases hil : (i : Int) < (len2 : Int)
    · have hb2 := hw2 (z2.getD i default) (getD_mem1 _ _ (by omega))
      repeat (first | (apply G.ex (hd := rfl); case h => (first | exact Ex.move rfl | exact Ex.lss rfl rfl | exact Ex.lenSl rfl | exact Ex.indexN rfl rfl (by first | omega | (simp; done) | (simp; omega)) | exact Ex.loadT0 rfl (by first | omega | (simp; done) | (simp; omega)) rfl | exact Ex.assign rfl)) | refine G.nil ?_ | refine GC.seq ?_ | refine GC.region ?_ | refine GE.then_normal ?_ | refine GC.cond_yes rfl (by first | assumption | omega) ?_)
      refine GE.meet (z2.getD i default) hb2 (by simp only [fits]; repeat (first | exact trivial | refine And.intro rfl ?_)) (by repeat first | exact tn_ | apply td_ rfl | apply tc_ | exact .here | apply Take1.there) (by repeat (first | exact Subs.refl | refine Subs.skip ?_))
    · repeat (first | (apply G.ex (hd := rfl); case h => (first | exact Ex.move rfl | exact Ex.lss rfl rfl | exact Ex.lenSl rfl)) | refine G.nil ?_ | refine GC.seq ?_ | refine GC.region ?_ | refine GC.skip ?_ | refine GE.then_normal ?_ | refine GC.cond_no rfl (by first | assumption | omega) ?_)
      refine GE.meet (i : Int) ⟨by omega, by omega⟩ (by simp only [fits]; repeat (first | exact trivial | refine And.intro rfl ?_)) (by repeat first | exact tn_ | apply td_ rfl | apply tc_ | exact .here | apply Take1.there) (by repeat (first | exact Subs.refl | refine Subs.skip ?_))
  rintro x hx fr_ rs_ hfr_ hrs_
  simp only [List.cons_append, List.nil_append] at hfr_ hrs_
  subst hfr_ hrs_
  have k1 := Int.emod_nonneg x (show (f.out.length : Int) ≠ 0 by omega)
  have k2 := Int.emod_lt_of_pos x (show (0 : Int) < f.out.length by omega)
  obtain ⟨K, hK⟩ : ∃ K : Nat, x % (f.out.length : Int) = (K : Int) := ⟨(x % (f.out.length : Int)).toNat, by omega⟩
  have hKl : K < f.out.length := by omega
  have hwK := hF.ok.w _ (getD_mem1 f.out K hKl)
  have hcK := hF.c _ (getD_mem1 f.out K hKl)
  have hlK := hlow _ (getD_mem1 f.out K hKl)
  have hst := hF.step hKl (whole_rep (S := S) (w := f.out.getD K default) hwK.1 hwK.2.1)
  have hph := Phi2_step hF hKl
  have hlow2 := hlow.step hF (by omega) hKl
  repeat (first | (apply G.ex (hd := rfl); case h => (first | exact Ex.move rfl | exact Ex.lenSl rfl)) | refine GC.seq ?_ | refine GC.region ?_ | refine GE.then_normal ?_)
  first | refine G.call (caps := []) (picked_sp x (f.out.length : Int) (by omega) (by omega)) rfl rfl rfl rfl (by repeat first | exact tn_ | apply td_ rfl | apply tc_ | exact .here | apply Take1.there) ?_ | refine G.callU (caps := []) (picked_sp x (f.out.length : Int) (by omega) (by omega)) rfl rfl rfl (by repeat first | exact tn_ | apply td_ rfl | apply tc_ | exact .here | apply Take1.there) ?_
  rintro v_ give_ ⟨rfl, rfl⟩ rs_ hrs_
  simp only [List.cons_append, List.nil_append] at hrs_
  subst hrs_
  rw [hK]
  repeat (first | (apply G.ex (hd := rfl); case h => (first | exact Ex.move rfl | exact Ex.indexN rfl rfl (by first | omega | (simp; done) | (simp; omega)) | exact Ex.assign rfl | exact Ex.loadTA rfl (by first | omega | (simp; done) | (simp; omega)))) | refine G.nil ?_ | refine GC.seq ?_ | refine GC.region ?_ | refine GE.then_normal ?_)
  refine G.alloc rfl (fun wb => ?_)
  repeat ((fail_if_success (refine GC.region (id := 18) ?_)); first | refine G.storeBA rfl rfl rfl rfl rfl ?_ | refine G.nil ?_ | refine GC.seq ?_ | refine GE.then_normal ?_)
  obtain ⟨a, ha0⟩ : ∃ a : Nat, (f.out.getD K default).1 = (a : Int) := ⟨(f.out.getD K default).1.toNat, by omega⟩
  obtain ⟨c, hc0⟩ : ∃ c : Int, (f.out.getD K default).2 = c := ⟨_, rfl⟩
  refine GC.reblk [.int .i64 (a : Int), .int .i64 c] (by rw [← ha0, ← hc0]; rfl) ?_
  have hwe : f.out.getD K default = ((a : Int), c) := Prod.ext ha0 hc0
  rw [hwe] at hst hph hlow2
  rw [ha0, hc0] at hwK hcK
  rw [ha0] at hlK
  simp only at hst hph hlow2
  obtain ⟨d, hd⟩ : ∃ d, whole S ((a : Int), c) = d := ⟨_, rfl⟩
  have hdl : d.length ≤ 100 := by rw [← hd]; unfold whole; rw [List.length_take]; simp only; omega
  have hw2k : ∀ y ∈ ws ++ [((a : Int), c)], 0 ≤ y.1 ∧ y.1 ≤ 2048 ∧ 1 ≤ y.2 ∧ y.2 ≤ 100 := fun y hy => by
    rcases List.mem_append.1 hy with hy | hy
    · exact hwok y hy
    · rw [List.mem_singleton.1 hy]; exact ⟨hwK.1, hlK, hwK.2.1, hcK.1⟩
  have hlaw := serve.fetch_law S (by omega) ws ((a : Int), c) hw2k
  rw [hd] at hlaw hst hph hlow2
  have hcatR : flat msg.eRq (A ++ ws.map rqW) ++ flat msg.eRq [serve.msN (serve.wR ((a : Int), c))] = flat msg.eRq (A ++ (ws ++ [((a : Int), c)]).map rqW) := by
    rw [← flat_append, List.append_assoc, List.map_append]; rfl
  have hM : ∀ y ∈ (ws ++ [((a : Int), c)]).map rqW, serve.dM y = ⟨none, 0, 0, []⟩ ∨ serve.dM y = ⟨none, 0, 0, []⟩ := fun y hy => by
    obtain ⟨w, _, rfl⟩ := List.mem_map.1 hy
    exact .inl rfl
  have hBok : ∀ y ∈ A ++ (ws ++ [((a : Int), c)]).map rqW, serve.MsOk y := fun y hy => by
    rcases List.mem_append.1 hy with hy | hy
    · exact hO y hy
    · obtain ⟨w, _, rfl⟩ := List.mem_map.1 hy
      exact ⟨serve.readR_ok _ _ _, rfl, (by decide : (0 : Int) ≤ 9223372036854775807)⟩
  have hBr : (A ++ (ws ++ [((a : Int), c)]).map rqW).map (·.r) = serve.upl S ++ (ws ++ [((a : Int), c)]).map serve.wR := by
    rw [List.map_append, hUe, List.map_map]; rfl
  have hBl : (A ++ (ws ++ [((a : Int), c)]).map rqW).length = A.length + i + 1 := by
    rw [List.length_append, List.length_map, List.length_append, hwl]; rfl
  have hUl : (serve.upl S).length + ws.length = A.length + i := by rw [← hUe, List.length_map, hwl]
  rw [hUl] at hlaw
  repeat (first | (apply G.ex (hd := rfl); case h => (first | exact Ex.move rfl | exact Ex.fieldB rfl | exact Ex.loadB rfl rfl)) | refine GC.region ?_)
  refine G.ex (hd := rfl) (Ex.build (cells := msg.eRq (serve.msN (serve.wR ((a : Int), c)))) rfl (by first | rfl | kernel_rfl)) ?_
  repeat (first | fail)
  refine G.lit (size := 9) (len := 1) (zs := [.int .i64 0, .int .i64 0, .string ByteArray.empty, .string ByteArray.empty, .int .i64 0, .int .i64 0, .int .i64 0, .int .i64 0, .slice none 0 0]) (vals := [(0, .agg (msg.eRq (serve.msN (serve.wR ((a : Int), c)))).toArray)]) (cells := flat msg.eRq [serve.msN (serve.wR ((a : Int), c))]) rfl (by kernel_rfl) rfl rfl (by kernel_rfl) rfl (by kernel_rfl) rfl (fun q0 => ?_)
  refine G.app rfl rfl (by rfl) (by omega) rfl (hcatR) (fun rb2 rc2 rs_ hrs_ => ?_)
  try simp only at hrs_
  subst hrs_
  refine G.nilsl 1 ?_
  refine G.conv (fun w_ H_ => serve.Holds.rdMore (A := A) ((ws ++ [((a : Int), c)]).map rqW) hM (H_.take (need := [.sl none 0 0 1 (flat eB []), .per (Rd eB 1 (A.map serve.dM))]) (by repeat first | exact tn_ | apply td_ rfl | apply tc_ | exact .here | apply Take1.there))) ?_
  try simp only [List.append_eq, List.nil_append, List.cons_append]
  obtain ⟨B, hB⟩ : ∃ B, A ++ (ws ++ [((a : Int), c)]).map rqW = B := ⟨_, rfl⟩
  rw [hB] at hBok hBr hBl ⊢
  clear hcatR hM
  repeat (first | (apply G.ex (hd := rfl); case h => (first | exact Ex.move rfl | exact Ex.assign rfl)) | refine G.nil ?_ | refine GC.seq ?_ | refine GC.region ?_ | refine GE.then_normal ?_)
  refine G.appNil rfl rfl (by rfl) (by omega) rfl (rfl) (fun pb pc => ?_)
  repeat (first | fail)
  first | refine G.call (caps := []) (serve.splay_sp (.vec 39 9 pb (A.length + i + 1) pc (flat msg.eRq B)) pb (A.length + i + 1) pc B hBl (by omega) hBok) rfl rfl rfl rfl (by repeat first | exact tn_ | apply td_ rfl | apply tc_ | exact .here | apply Take1.there) ?_ | refine G.callU (caps := []) (serve.splay_sp (.vec 39 9 pb (A.length + i + 1) pc (flat msg.eRq B)) pb (A.length + i + 1) pc B hBl (by omega) hBok) rfl rfl rfl (by repeat first | exact tn_ | apply td_ rfl | apply tc_ | exact .here | apply Take1.there) ?_
  rintro v_ give_ ⟨P, po, poc, hP, rfl, rfl⟩ rs_ hrs_
  simp only [List.cons_append, List.nil_append] at hrs_
  subst hrs_
  have hPl : P.length = A.length + i + 1 := by have := congrArg List.length hP; rw [List.length_map, serve.sruns_len, List.length_map, hBl] at this; exact this
  rw [hBr] at hP
  have hlast := serve.rd_at hP (i := A.length + i) (by omega)
  rw [hlaw] at hlast
  have hidx : (((A.length + i + 1 : Nat) : Int) - 1).toNat = A.length + i := by omega
  obtain ⟨R, hR⟩ : ∃ R, P.getD (A.length + i) default = R := ⟨_, rfl⟩
  rw [hR] at hlast
  have hRc : ¬ ¬ (P.getD (((A.length + i + 1 : Nat) : Int) - 1).toNat default).x.code = 0 := fun h => h (by rw [hidx, hR, hlast]; rfl)
  have hRd : R.x.d = d := by rw [hlast]; rfl
  have hg1 : (P.map serve.dR).getD (A.length + i) default = ⟨R.da, d.length, R.dc, d⟩ := by
    rw [getD_mapT serve.dR P (A.length + i) (by omega), hR, ← hRd]; rfl
  refine G.conv (fun w_ H_ => H_.rdAt (l := P.map serve.dR) (enc := eB) (s := 1) (by simp) (A.length + i) (by rw [List.length_map]; omega)) ?_
  rw [hg1]
  clear hP hBok hBr hlaw hUl hlast
  obtain ⟨g, hg⟩ : ∃ g : GoM, g = ⟨(a : Int), c, ⟨R.da, d.length, R.dc, d⟩⟩ := ⟨_, rfl⟩
  have htg : toG g = ⟨(a : Int), c, d⟩ := by rw [hg]; rfl
  rw [← htg] at hst hph hlow2
  obtain ⟨f2, hf2⟩ : ∃ f2, f2 = (gotF f (toG g)).1 := ⟨_, rfl⟩
  obtain ⟨t2, ht2⟩ : ∃ t2, t2 = (gotF f (toG g)).2 := ⟨_, rfl⟩
  rw [← hf2] at hph hlow2
  rw [← hf2, ← ht2] at hst
  have hcat1 : flat eG G0 ++ flat eG [g] = flat eG (G0 ++ [g]) := (flat_append ..).symm
  have hgok : MOk g := by rw [hg]; exact ⟨rfl, by simp only; omega, by simp only; omega, by simp only; omega⟩
  repeat (first | (apply G.ex (hd := rfl); case h => (first | exact Ex.move rfl | exact Ex.fieldE rfl | exact Ex.sub rfl rfl (by omega) | exact Ex.neI rfl rfl | exact Ex.lenSl rfl | exact Ex.loadT rfl (by first | omega | (simp; done) | (simp; omega)) rfl | exact Ex.extract rfl rfl | exact Ex.assign rfl | exact Ex.pickF rfl (by first | assumption | omega) rfl | exact Ex.indexI rfl rfl (by omega))) | refine G.g_ff rfl rfl (by first | assumption | omega) ?_ | refine G.nil ?_ | refine GC.seq ?_ | refine GC.region ?_ | refine GC.skip ?_ | refine GE.then_normal ?_ | refine GC.cond_no rfl (by first | assumption | omega) ?_)
  refine GC.drawA [] [.blk wb 37 [.int .i64 (a : Int), .int .i64 c], .vec 45 7 po (A.length + i + 1) poc (flat serve.eRpM P)] (by repeat first | exact tn_ | apply td_ rfl | apply tc_ | exact .here | apply Take1.there) (by kernel_rfl) ?_
  first | (apply GA.take [] (hD := .inl rfl) (hsub := ⟨_, Takes.nil⟩) (i := 0) (hi := rfl) (hs := by kernel_rfl) (hfr := by kernel_rfl) (hr := by kernel_rfl) (hQ := np_) (hd := rfl); case hx => (first | exact Ex.move rfl))
  first | (apply GA.take [] (hD := .inl rfl) (hsub := ⟨_, Takes.nil⟩) (i := 1) (hi := rfl) (hs := by kernel_rfl) (hfr := by kernel_rfl) (hr := by kernel_rfl) (hQ := np_) (hd := rfl); case hx => (first | exact Ex.fieldB rfl))
  first | (apply GA.take _ (hD := .inr ⟨rfl, by kernel_rfl⟩) (hsub := ⟨_, (by repeat first | exact tn_ | apply td_ rfl | apply tc_ | exact .here | apply Take1.there)⟩) (i := 2) (hi := rfl) (hs := by kernel_rfl) (hfr := by kernel_rfl) (hr := by kernel_rfl) (hQ := np_) (hd := rfl); case hx => (first | exact Ex.loadB rfl rfl))
  first | (apply GA.take [] (hD := .inl rfl) (hsub := ⟨_, Takes.nil⟩) (i := 3) (hi := rfl) (hs := by kernel_rfl) (hfr := by kernel_rfl) (hr := by kernel_rfl) (hQ := np_) (hd := rfl); case hx => (first | exact Ex.fieldB rfl))
  first | (apply GA.take _ (hD := .inr ⟨rfl, by kernel_rfl⟩) (hsub := ⟨_, (by repeat first | exact tn_ | apply td_ rfl | apply tc_ | exact .here | apply Take1.there)⟩) (i := 4) (hi := rfl) (hs := by kernel_rfl) (hfr := by kernel_rfl) (hr := by kernel_rfl) (hQ := np_) (hd := rfl); case hx => (first | exact Ex.loadB rfl rfl))
  first | (apply GA.take [] (hD := .inl rfl) (hsub := ⟨_, Takes.nil⟩) (i := 5) (hi := rfl) (hs := by kernel_rfl) (hfr := by kernel_rfl) (hr := by kernel_rfl) (hQ := np_) (hd := rfl); case hx => (first | exact Ex.move rfl))
  first | (apply GA.take [] (hD := .inl rfl) (hsub := ⟨_, Takes.nil⟩) (i := 6) (hi := rfl) (hs := by kernel_rfl) (hfr := by kernel_rfl) (hr := by kernel_rfl) (hQ := np_) (hd := rfl); case hx => (first | exact Ex.move rfl))
  first | (apply GA.take [] (hD := .inl rfl) (hsub := ⟨_, Takes.nil⟩) (i := 7) (hi := rfl) (hs := by kernel_rfl) (hfr := by kernel_rfl) (hr := by kernel_rfl) (hQ := np_) (hd := rfl); case hx => (first | exact Ex.lenSl rfl))
  first | (apply GA.take [] (hD := .inl rfl) (hsub := ⟨_, Takes.nil⟩) (i := 8) (hi := rfl) (hs := by kernel_rfl) (hfr := by kernel_rfl) (hr := by kernel_rfl) (hQ := np_) (hd := rfl); case hx => (first | exact Ex.sub rfl rfl (by omega)))
  first | (apply GA.take _ (hD := .inr ⟨rfl, by kernel_rfl⟩) (hsub := ⟨_, (by repeat first | exact tn_ | apply td_ rfl | apply tc_ | exact .here | apply Take1.there)⟩) (i := 9) (hi := rfl) (hs := by kernel_rfl) (hfr := by kernel_rfl) (hr := by kernel_rfl) (hQ := np_) (hd := rfl); case hx => (first | exact Ex.indexI rfl rfl (by omega)))
  first | (apply GA.take [] (hD := .inl rfl) (hsub := ⟨_, Takes.nil⟩) (i := 10) (hi := rfl) (hs := by kernel_rfl) (hfr := by kernel_rfl) (hr := by kernel_rfl) (hQ := np_) (hd := rfl); case hx => (first | exact Ex.fieldE rfl))
  first | (apply GA.take _ (hD := .inr ⟨rfl, by kernel_rfl⟩) (hsub := ⟨_, (by repeat first | exact tn_ | apply td_ rfl | apply tc_ | exact .here | apply Take1.there)⟩) (i := 11) (hi := rfl) (hs := by kernel_rfl) (hfr := by kernel_rfl) (hr := by kernel_rfl) (hQ := np_) (hd := rfl); case hx => (first | exact Ex.loadT rfl (by first | omega | (simp; done) | (simp; omega)) rfl))
  rw [hidx, hR, hRd]
  first | (apply GA.take [] (hD := .inl rfl) (hsub := ⟨_, Takes.nil⟩) (i := 12) (hi := rfl) (hs := by kernel_rfl) (hfr := by kernel_rfl) (hr := by kernel_rfl) (hQ := np_) (hd := rfl); case hx => (first | exact Ex.build rfl rfl))
  refine GA.one (i := 13) (by kernel_rfl) rfl ?_
  refine G.lit (cells := flat eG [(⟨(a : Int), c, ⟨R.da, d.length, R.dc, d⟩⟩ : GoM)]) rfl (by rfl) (by rfl) (by rfl) (by rfl) (by rfl) (by rfl) rfl (fun q4 => ?_)
  rw [← hg]
  try refine G.nil ?_
  refine GA.back (by first | exact .inl (by decide) | exact .inr ⟨_, (by repeat first | exact tn_ | apply td_ rfl | apply tc_ | exact .here | apply Take1.there)⟩) ?_
  refine GA.one (i := 14) (by kernel_rfl) rfl ?_
  refine G.app rfl rfl (by rfl) (by omega) rfl (hcat1) (fun og2 ogc2 rs_ hrs_ => ?_)
  try simp only at hrs_
  subst hrs_
  try refine G.nil ?_
  refine GA.back (by first | exact .inl (by decide) | exact .inr ⟨_, (by repeat first | exact tn_ | apply td_ rfl | apply tc_ | exact .here | apply Take1.there)⟩) ?_
  first | (apply GA.take [] (hD := .inl rfl) (hsub := ⟨_, Takes.nil⟩) (i := 15) (hi := rfl) (hs := by kernel_rfl) (hfr := by kernel_rfl) (hr := by kernel_rfl) (hQ := np_) (hd := rfl); case hx => (first | exact Ex.assign rfl))
  refine GA.done (by kernel_rfl) ?_
  repeat (first | (apply G.ex (hd := rfl); case h => (first | exact Ex.move rfl)) | refine GC.seq ?_ | refine GC.region ?_ | refine GE.then_normal ?_)
  refine G.conv (fun w_ H_ => Holds.rdSnoc (x := ⟨R.da, d.length, R.dc, d⟩) (H_.take (need := [.sl R.da d.length R.dc 1 (flat eB d), .per (Rd eB 1 (G0.map (·.d)))]) (by repeat first | exact tn_ | apply td_ rfl | apply tc_ | exact .here | apply Take1.there))) ?_
  try simp only [List.append_eq, List.nil_append, List.cons_append]
  rw [show G0.map (·.d) ++ [⟨R.da, d.length, R.dc, d⟩] = (G0 ++ [g]).map (·.d) by rw [List.map_append, hg]; rfl]
  obtain ⟨G1, hG1⟩ : ∃ G1, G1 = G0 ++ [g] := ⟨_, rfl⟩
  rw [← hG1]
  have hG1l : G1.length = i + 1 := by rw [hG1, List.length_append, hGl]; rfl
  have hG1ok : ∀ m ∈ G1, MOk m := fun m hm => by
    rw [hG1] at hm
    rcases List.mem_append.1 hm with hm | hm
    · exact hG m hm
    · obtain rfl := List.mem_singleton.1 hm; exact hgok
  have hend2 : ends f1 (G1.map toG) = f2 := by rw [hG1, List.map_append, ends_app, hend, hf2]; rfl
  first | refine G.frz ow ?_ | refine GC.frz ow ?_ | refine GE.frz ow ?_
  refine G.len (m := f.out.length) (c := oc) ow fun ⟨_, u1, u2⟩ => ?_
  refine G.conv (fun w_ H_ => Holds.slSub 0 K (Nat.zero_le _) (Nat.le_of_lt hKl) (H_.take (need := [.sl ow f.out.length oc 2 (flat eW f.out)]) (by repeat first | exact tn_ | apply td_ rfl | apply tc_ | exact .here | apply Take1.there))) ?_
  try simp only [List.append_eq, List.nil_append, List.cons_append]
  refine G.conv (fun w_ H_ => Holds.slSub (K + 1) f.out.length (by omega) (Nat.le_refl _) (H_.take (need := [.sl ow f.out.length oc 2 (flat eW f.out)]) (by repeat first | exact tn_ | apply td_ rfl | apply tc_ | exact .here | apply Take1.there))) ?_
  try simp only [List.append_eq, List.nil_append, List.cons_append]
  rw [flat_cutW, flat_cutW]
  have hcat2 : flat eW ((f.out.drop 0).take (K - 0)) ++ flat eW ((f.out.drop (K + 1)).take (f.out.length - (K + 1))) = flat eW (f.out.eraseIdx K) := by
    have ht : (f.out.drop (K + 1)).take (f.out.length - (K + 1)) = f.out.drop (K + 1) := List.take_of_length_le (by rw [List.length_drop]; omega)
    rw [ht, ← flat_append, List.drop_zero, Nat.sub_zero, List.eraseIdx_eq_take_drop_succ]
  have hel : (f.out.eraseIdx K).length = f.out.length - 1 := List.length_eraseIdx_of_lt hKl
  have hcat3 : flat eW (f.out.eraseIdx K) ++ flat eW t2.wants = flat eW f2.out := by rw [hst.out]; exact (flat_append ..).symm
  have hlen3 : K - 0 + (f.out.length - (K + 1)) + t2.wants.length = f2.out.length := by rw [hst.out, List.length_append, hel]; omega
  have hol2 := hst.inv.ok.len
  refine G.appNil rfl rfl (by rfl) (by omega) rfl (rfl) (fun o5 c5 => ?_)
  repeat (first | fail)
  first | refine G.call (caps := []) (play_sp (.vec 47 3 o5 (i + 1) c5 (flat eG G1)) o5 (i + 1) c5 G1 hG1l (by omega) hG1ok) rfl rfl rfl rfl (by repeat first | exact tn_ | apply td_ rfl | apply tc_ | exact .here | apply Take1.there) ?_ | refine G.callU (caps := []) (play_sp (.vec 47 3 o5 (i + 1) c5 (flat eG G1)) o5 (i + 1) c5 G1 hG1l (by omega) hG1ok) rfl rfl rfl (by repeat first | exact tn_ | apply td_ rfl | apply tc_ | exact .here | apply Take1.there) ?_
  rintro v_ give_ ⟨T, o, oc2, hT, rfl, rfl⟩ rs_ hrs_
  simp only [List.cons_append, List.nil_append] at hrs_
  subst hrs_
  have hTc : T.map (·.t) = (onF newF []).2 :: runs f1 (G1.map toG) := by rw [hT, hf1]; rfl
  have hTl : T.length = i + 2 := by
    have := congrArg List.length hTc
    rw [List.length_map, List.length_cons, runs_len, List.length_map, hG1l] at this
    exact this
  have hTt : (T.getD (i + 1) default).t = t2 := by
    rw [← getD_mapT (fun x : NeM => x.t) T (i + 1) (by omega), hTc, List.getD_eq_getElem?_getD, List.getElem?_cons_succ, ← List.getD_eq_getElem?_getD]
    have h1 := (runs_at (G1.map toG) f1 i (by rw [List.length_map]; omega)).1
    rw [h1, hG1, List.map_append, ht2]
    have h2 : (G0.map toG ++ [toG g]).take i = G0.map toG := by rw [← hGl, ← List.length_map (f := toG), List.take_left]
    have h3 : (G0.map toG ++ [toG g]).getD i default = toG g := by
      rw [List.getD_eq_getElem?_getD, List.getElem?_append_right (by rw [List.length_map]; omega), List.length_map, hGl, Nat.sub_self]; rfl
    rw [show G0.map toG ++ [g].map toG = G0.map toG ++ [toG g] from rfl, h2, h3, hend]
  have hTlt : i + 1 < T.length := by omega
  refine G.conv (fun w_ H_ => H_.rdAt (l := T.map wF) (enc := eW) (s := 2) (by simp) (i + 1) (by rw [List.length_map]; omega)) ?_
  refine G.conv (fun w_ H_ => H_.rdAt (l := T.map xF) (enc := eB) (s := 1) (by simp) (i + 1) (by rw [List.length_map]; omega)) ?_
  rw [getD_mapT wF T (i + 1) hTlt, getD_mapT xF T (i + 1) hTlt]
  simp only [wF, xF]
  have e9 : ¬ ¬ ((i + 1 + 1 : Nat) : Int) = ((i + 1 : Nat) : Int) + 1 := fun h => h (by omega)
  have e10 : ¬ ¬ (T.getD (i + 1) default).t.code = 0 := fun h => h (by rw [hTt]; exact hst.code)
  obtain ⟨nW, hnW⟩ : ∃ m, T.getD (i + 1) default = m := ⟨_, rfl⟩
  rw [hnW] at hTt ⊢
  rw [hTt]
  clear hTc hT hG hwok hO hend hgok hcat1
  have hphn : (i + 1) + Phi2 S.length f2 ≤ 42 := by omega
  have hnx := fun h1 h2 => (⟨hphn, hst.inv, hlow2, hst.stop, h1, hG1l, h2, hend2, by rw [List.length_append, hwl]; rfl, hw2k⟩ : FS S f1 (i + 1) f2 G1 (ws ++ [((a : Int), c)]))
  repeat (first | (apply G.ex (hd := rfl); case h => (first | exact Ex.move rfl | exact Ex.fieldE rfl | exact Ex.add rfl rfl (by omega) | exact Ex.neI rfl rfl | exact Ex.lenSl rfl | exact Ex.indexN rfl rfl (by first | omega | (simp; done) | (simp; omega)) | exact Ex.loadT0 rfl (by first | omega | (simp; done) | (simp; omega)) rfl | exact Ex.extract rfl rfl | exact Ex.assign rfl | exact Ex.pickF rfl (by first | assumption | omega) rfl)) | refine G.g_ff rfl rfl (by first | assumption | omega) ?_ | refine G.nil ?_ | refine GC.seq ?_ | refine GC.region ?_ | refine GC.skip ?_ | refine GE.then_normal ?_ | refine GC.cond_no rfl (by first | assumption | omega) ?_)
  refine GC.drawA [] [.vec 34 4 o (i + 1 + 1) oc2 (flat eN T)] (by repeat first | exact tn_ | apply td_ rfl | apply tc_ | exact .here | apply Take1.there) (by kernel_rfl) ?_
  first | (apply GA.take [] (hD := .inl rfl) (hsub := ⟨_, Takes.nil⟩) (i := 0) (hi := rfl) (hs := by kernel_rfl) (hfr := by kernel_rfl) (hr := by kernel_rfl) (hQ := np_) (hd := rfl); case hx => (first | exact Ex.move rfl))
  first | (apply GA.take [] (hD := .inl rfl) (hsub := ⟨_, Takes.nil⟩) (i := 1) (hi := rfl) (hs := by kernel_rfl) (hfr := by kernel_rfl) (hr := by kernel_rfl) (hQ := np_) (hd := rfl); case hx => (first | exact Ex.move rfl))
  first | (apply GA.take [] (hD := .inl rfl) (hsub := ⟨_, Takes.nil⟩) (i := 4) (hi := rfl) (hs := by kernel_rfl) (hfr := by kernel_rfl) (hr := by kernel_rfl) (hQ := np_) (hd := rfl); case hx => (first | exact Ex.move rfl))
  first | (apply GA.take [] (hD := .inl rfl) (hsub := ⟨_, Takes.nil⟩) (i := 5) (hi := rfl) (hs := by kernel_rfl) (hfr := by kernel_rfl) (hr := by kernel_rfl) (hQ := np_) (hd := rfl); case hx => (first | exact Ex.move rfl))
  first | (apply GA.take [] (hD := .inl rfl) (hsub := ⟨_, Takes.nil⟩) (i := 6) (hi := rfl) (hs := by kernel_rfl) (hfr := by kernel_rfl) (hr := by kernel_rfl) (hQ := np_) (hd := rfl); case hx => (first | exact Ex.add rfl rfl (by omega)))
  first | (apply GA.take [] (hD := .inl rfl) (hsub := ⟨_, Takes.nil⟩) (i := 9) (hi := rfl) (hs := by kernel_rfl) (hfr := by kernel_rfl) (hr := by kernel_rfl) (hQ := np_) (hd := rfl); case hx => (first | exact Ex.move rfl))
  first | (apply GA.take [] (hD := .inl rfl) (hsub := ⟨_, Takes.nil⟩) (i := 10) (hi := rfl) (hs := by kernel_rfl) (hfr := by kernel_rfl) (hr := by kernel_rfl) (hQ := np_) (hd := rfl); case hx => (first | exact Ex.move rfl))
  first | (apply GA.take [] (hD := .inl rfl) (hsub := ⟨_, Takes.nil⟩) (i := 11) (hi := rfl) (hs := by kernel_rfl) (hfr := by kernel_rfl) (hr := by kernel_rfl) (hQ := np_) (hd := rfl); case hx => (first | exact Ex.lenSl rfl))
  first | (apply GA.take _ (hD := .inr ⟨rfl, by kernel_rfl⟩) (hsub := ⟨_, (by repeat first | exact tn_ | apply td_ rfl | apply tc_ | exact .here | apply Take1.there)⟩) (i := 12) (hi := rfl) (hs := by kernel_rfl) (hfr := by kernel_rfl) (hr := by kernel_rfl) (hQ := np_) (hd := rfl); case hx => (first | exact Ex.indexN rfl rfl (by first | omega | (simp; done) | (simp; omega))))
  first | (apply GA.take [] (hD := .inl rfl) (hsub := ⟨_, Takes.nil⟩) (i := 13) (hi := rfl) (hs := by kernel_rfl) (hfr := by kernel_rfl) (hr := by kernel_rfl) (hQ := np_) (hd := rfl); case hx => (first | exact Ex.fieldE rfl))
  first | (apply GA.take _ (hD := .inr ⟨rfl, by kernel_rfl⟩) (hsub := ⟨_, (by repeat first | exact tn_ | apply td_ rfl | apply tc_ | exact .here | apply Take1.there)⟩) (i := 14) (hi := rfl) (hs := by kernel_rfl) (hfr := by kernel_rfl) (hr := by kernel_rfl) (hQ := np_) (hd := rfl); case hx => (first | exact Ex.loadT rfl (by first | omega | (simp; done) | (simp; omega)) rfl))
  rw [hnW, hTt]
  apply GA.take [] (hD := .inl rfl) (hsub := ⟨_, Takes.nil⟩) (i := 2) (hi := rfl) (hs := by kernel_rfl) (hfr := by kernel_rfl) (hr := by kernel_rfl) (hQ := np_) (hd := rfl) (hx := (Ex.slHi (r := K) rfl rfl (by omega)))
  apply GA.take [] (hD := .inl rfl) (hsub := ⟨_, Takes.nil⟩) (i := 7) (hi := rfl) (hs := by kernel_rfl) (hfr := by kernel_rfl) (hr := by kernel_rfl) (hQ := np_) (hd := rfl) (hx := (Ex.slLo (m := f.out.length) (l := K + 1) rfl rfl (by omega)))
  refine GA.one (i := 3) (by kernel_rfl) rfl ?_
  refine G.appNil rfl rfl (by rfl) (by omega) rfl (rfl) (fun o3 c3 => ?_)
  try refine G.nil ?_
  refine GA.back (by first | exact .inl (by decide) | exact .inr ⟨_, (by repeat first | exact tn_ | apply td_ rfl | apply tc_ | exact .here | apply Take1.there)⟩) ?_
  refine GA.one (i := 8) (by kernel_rfl) rfl ?_
  refine G.app rfl rfl (by rfl) (by omega) rfl (hcat2) (fun o4 c4 rs_ hrs_ => ?_)
  try simp only at hrs_
  subst hrs_
  try refine G.nil ?_
  refine GA.back (by first | exact .inl (by decide) | exact .inr ⟨_, (by repeat first | exact tn_ | apply td_ rfl | apply tc_ | exact .here | apply Take1.there)⟩) ?_
  refine GA.one (i := 15) (by kernel_rfl) rfl ?_
  refine G.app rfl rfl (by rfl) (by omega) rfl (hcat3) (fun o6 c6 rs_ hrs_ => ?_)
  try simp only at hrs_
  subst hrs_
  try refine G.nil ?_
  refine GA.back (by first | exact .inl (by decide) | exact .inr ⟨_, (by repeat first | exact tn_ | apply td_ rfl | apply tc_ | exact .here | apply Take1.there)⟩) ?_
  first | (apply GA.take [] (hD := .inl rfl) (hsub := ⟨_, Takes.nil⟩) (i := 16) (hi := rfl) (hs := by kernel_rfl) (hfr := by kernel_rfl) (hr := by kernel_rfl) (hQ := np_) (hd := rfl); case hx => (first | exact Ex.assign rfl))
  refine GA.done (by kernel_rfl) ?_
  rw [hlen3]
  repeat (first | (apply G.ex (hd := rfl); case h => (first | exact Ex.move rfl | exact Ex.fieldE rfl | exact Ex.lenSl rfl | exact Ex.indexN rfl rfl (by first | omega | (simp; done) | (simp; omega)) | exact Ex.loadT rfl (by first | omega | (simp; done) | (simp; omega)) rfl)) | refine G.nil ?_ | refine GC.seq ?_ | refine GC.region ?_ | refine GE.then_normal ?_)
  rw [hnW, hTt]
  by_cases hdn : t2.done = true
  · have hdata : t2.data = S := by rw [hst.data hdn]; exact hst.inv.file (by rw [← hst.done]; exact hdn)
    rw [hdn]
    clear hnx hst
    repeat (first | (apply G.ex (hd := rfl); case h => (first | exact Ex.move rfl | exact Ex.fieldE rfl | exact Ex.lenSl rfl | exact Ex.indexN rfl rfl (by first | omega | (simp; done) | (simp; omega)) | exact Ex.loadT rfl (by first | omega | (simp; done) | (simp; omega)) rfl)) | refine GC.seq ?_ | refine GC.region ?_ | refine GC.cond_t rfl ?_)
    rw [hnW, hTt, hdata, hS]
    first | refine G.call (caps := []) (top.sameBytes_sp (.sl nW.xo n nW.xc 1 (flat eB S)) (.sl so n sc 1 (flat eB S)) nW.xo so n nW.xc n sc S S hS hS (by omega) (by omega)) rfl rfl rfl rfl (by repeat first | exact tn_ | apply td_ rfl | apply tc_ | exact .here | apply Take1.there) ?_ | refine G.callU (caps := []) (top.sameBytes_sp (.sl nW.xo n nW.xc 1 (flat eB S)) (.sl so n sc 1 (flat eB S)) nW.xo so n nW.xc n sc S S hS hS (by omega) (by omega)) rfl rfl rfl (by repeat first | exact tn_ | apply td_ rfl | apply tc_ | exact .here | apply Take1.there) ?_
    rintro v_ give_ ⟨rfl, rfl⟩ rs_ hrs_
    simp only [List.cons_append, List.nil_append] at hrs_
    subst hrs_
    rw [decide_eq_true (rfl : S = S)]
    repeat (first | (apply G.ex (hd := rfl); case h => (first | exact Ex.assign rfl)) | refine G.nil ?_ | refine GC.ret ?_ | refine GE.then_normal ?_ | refine GE.then_ret ?_ | refine GE.block_ret ?_)
    refine GE.ret (by first | exact .inl rfl | exact .inr rfl) (res1 Tryz.results3 rfl) ⟨rfl, rfl⟩ (by repeat first | exact tn_ | apply td_ rfl | apply tc_ | exact .here | apply Take1.there) (by repeat (first | exact Subs.refl | refine Subs.skip ?_))
  · have hdf : t2.done = false := by revert hdn; cases t2.done <;> simp
    have hfin2 : fin f2 = false := by rw [← hst.done]; exact hdf
    rw [hdf]
    have hFS := hnx hfin2 hG1ok
    clear hnx hst
    repeat (first | (apply G.ex (hd := rfl); case h => (first | exact Ex.move rfl | exact Ex.add rfl rfl (by omega) | exact Ex.assign rfl)) | refine G.nil ?_ | refine GC.region ?_ | refine GC.skip ?_ | refine GE.then_normal ?_ | refine GE.block_normal ?_ | refine GC.cond_f rfl ?_)
    rw [← hB]
    refine GE.loop (i + 1, f2, (G1, og2, ogc2), (o6, c6), (ws ++ [((a : Int), c)], rb2, rc2)) hFS (by simp only; omega) (by simp only [fits]; repeat (first | exact trivial | refine And.intro rfl ?_)) (by repeat first | exact tn_ | apply td_ rfl | apply tc_ | exact .here | apply Take1.there) (by repeat (first | exact Subs.refl | refine Subs.skip ?_))
end fetch
end Go.Proofs.YtmceappjldcbmaaGreatDoor
