/-
  A FRAME THAT WAS HARMED IS AS ONE THAT WAS LOST: the plain law of PipeHurt.
-/
import Derived.Test.YtcllddkhnbnigaaPipeN
namespace Go.Proofs.Ytcllddkhnbnigaa
set_option linter.unusedVariables false
set_option linter.unusedSimpArgs false
namespace pipe
open hole
theorem runsA_app : ∀ (l m : List Ho) (w : Aw), runsA w (l ++ m) = runsA w l ++ runsA (endsA w l) m
  | [], m, w => rfl
  | a :: t, m, w => by simp only [List.cons_append, runsA, endsA, runsA_app t m]
theorem endsA_app : ∀ (l m : List Ho) (w : Aw), endsA w (l ++ m) = endsA (endsA w l) m
  | [], m, w => rfl
  | a :: t, m, w => by simp only [List.cons_append, endsA, endsA_app t m]
theorem runsA_len : ∀ (l : List Ho) (w : Aw), (runsA w l).length = l.length
  | [], _ => rfl
  | a :: t, w => by simp [runsA, runsA_len t]
/-- what is told behind the hops l -/
theorem told_at {T : List PaM} {w : Aw} {l m : List Ho} {x : Ho} (h : T.map (·.p) = runsA w (l ++ x :: m)) : (T.getD l.length default).p = (doA (endsA w l) x).2 := by
  have hl := congrArg List.length h
  rw [runsA_len, List.length_map, List.length_append, List.length_cons] at hl
  have h1 : (T.map (·.p)).getD l.length default = (T.getD l.length default).p := by
    rw [List.getD_eq_getElem?_getD, List.getElem?_map, List.getD_eq_getElem?_getD, List.getElem?_eq_getElem (show l.length < T.length by omega)]; rfl
  rw [← h1, h, runsA_app, List.getD_eq_getElem?_getD, List.getElem?_append_right (by rw [runsA_len]; exact Nat.le_refl _), runsA_len, Nat.sub_self]
  rfl
theorem hurt_core (w : Aw) (at_ : Int) (by_ : UInt8) (ha : 0 ≤ at_ ∧ at_ < 10) (hb : by_ ≠ 0) (hp : (doA w .send).2.put = true) :
    (doA (doA w .send).1 (.hit (doA w .send).2.id at_ by_)).2.code = 0 ∧
    (doA (doA (doA w .send).1 (.hit (doA w .send).2.id at_ by_)).1 (.carry (doA w .send).2.id)).2 = no 6 ∧
    ∀ n, (doA (doA w .send).1 (.drain n)).2.data = (doA (doA (doA (doA w .send).1 (.hit (doA w .send).2.id at_ by_)).1 (.carry (doA w .send).2.id)).1 (.drain n)).2.data ∧
      (doA (doA w .send).1 (.drain n)).2.fin = (doA (doA (doA (doA w .send).1 (.hit (doA w .send).2.id at_ by_)).1 (.carry (doA w .send).2.id)).1 (.drain n)).2.fin := by
  have e : doA w .send = sendA w := rfl
  rw [e] at hp ⊢
  unfold sendA at hp ⊢
  by_cases c : (send.doF w.se .poll).2.idle = true
  · rw [if_pos c] at hp; exact nomatch hp
  · rw [if_neg c]
    generalize (send.doF w.se .poll).2 = t
    generalize (send.doF w.se .poll).1 = s1
    simp only
    have hg : (w.fs ++ [(⟨.fwd t, false, false⟩ : AF)]).getD w.fs.length default = ⟨.fwd t, false, false⟩ := by
      rw [getD_app _ _ _ (by rw [List.length_append, List.length_singleton]; omega), if_neg (by omega)]
    have hl : (w.fs ++ [(⟨.fwd t, false, false⟩ : AF)]).length = w.fs.length + 1 := by rw [List.length_append]; rfl
    have hh : doA ⟨s1, w.he, w.fs ++ [⟨.fwd t, false, false⟩]⟩ (.hit (w.fs.length : Int) at_ by_) = (⟨s1, w.he, (w.fs ++ [(⟨.fwd t, false, false⟩ : AF)]).set w.fs.length ⟨.fwd t, true, true⟩⟩, no 0) := by
      show hitA _ _ _ _ = _
      unfold hitA
      simp only
      rw [if_neg (by rw [hl]; omega), Int.toNat_natCast, hg, if_neg (by show ¬ (at_ < 0 ∨ ((10 + t.data.length : Nat) : Int) ≤ at_); omega), if_neg (fun h => nomatch h), decide_eq_true hb]
    rw [hh]
    simp only
    have hg2 : ((w.fs ++ [(⟨.fwd t, false, false⟩ : AF)]).set w.fs.length ⟨.fwd t, true, true⟩).getD w.fs.length default = ⟨.fwd t, true, true⟩ := by
      rw [List.getD_eq_getElem?_getD, List.getElem?_set, if_pos rfl, if_pos (by rw [hl]; omega)]; rfl
    have hc : doA ⟨s1, w.he, (w.fs ++ [(⟨.fwd t, false, false⟩ : AF)]).set w.fs.length ⟨.fwd t, true, true⟩⟩ (.carry (w.fs.length : Int)) = (⟨s1, w.he, (w.fs ++ [(⟨.fwd t, false, false⟩ : AF)]).set w.fs.length ⟨.fwd t, true, true⟩⟩, no 6) := by
      show carryA _ _ = _
      have ht : takenA ⟨s1, w.he, (w.fs ++ [(⟨.fwd t, false, false⟩ : AF)]).set w.fs.length ⟨.fwd t, true, true⟩⟩ (w.fs.length : Int) false = .inl 6 := by
        unfold takenA
        simp only
        rw [Int.toNat_natCast, hg2, if_neg (by rw [List.length_set, hl]; rintro (h | h | h); omega; omega; exact h rfl), if_pos rfl]
      unfold carryA
      rw [ht]
    rw [hc]
    refine ⟨rfl, rfl, fun n => ?_⟩
    show (replyA _ _).2.data = (replyA _ _).2.data ∧ (replyA _ _).2.fin = (replyA _ _).2.fin
    unfold replyA
    split <;> exact ⟨rfl, rfl⟩
theorem runsA_of {first room : Int} (hf : 0 ≤ first ∧ first < 65536) (hr : 1 ≤ room ∧ room ≤ 4096) {H : List HoM} (hL : LOk H) : runs (newW first room) (H.map toHo) = runsA (newA room) (H.map toHo) := by
  have hs := hL.s
  have ho : ∀ x ∈ H.map toHo, HoOk x := fun x hx => by
    obtain ⟨m, hm, rfl⟩ := List.mem_map.1 hx
    exact hL.o m hm
  exact (runs_rel _ (Rel.new first room) (WOk.new hf hr) (by omega) ho).1
theorem hurt_law {first room : Int} (hf : 0 ≤ first ∧ first < 65536) (hr : 1 ≤ room ∧ room ≤ 4096) {G : List HoM} {id at_ cnt : Int} {by_ : UInt8} (ha : 0 ≤ at_ ∧ at_ < 10) (hb : by_ ≠ 0) {T A X Y : List PaM} (s h c d : HoM)
    (hs : toHo s = .send) (hh : toHo h = .hit id at_ by_) (hc : toHo c = .carry id) (hd : toHo d = .drain cnt)
    (h1 : LOk (G ++ [s])) (h2 : LOk (G ++ [s, h, c])) (h3 : LOk (G ++ [s, d])) (h4 : LOk (G ++ [s, h, c, d]))
    (hT : T.map (·.p) = runs (newW first room) ((G ++ [s]).map toHo)) (hA : A.map (·.p) = runs (newW first room) ((G ++ [s, h, c]).map toHo)) (hX : X.map (·.p) = runs (newW first room) ((G ++ [s, d]).map toHo)) (hY : Y.map (·.p) = runs (newW first room) ((G ++ [s, h, c, d]).map toHo))
    (hp : (T.getD G.length default).p.put = true) (hid : (T.getD G.length default).p.id = id) :
    (A.getD (G.length + 1) default).p.code = 0 ∧ (A.getD (G.length + 2) default).p.code = 6 ∧ (A.getD (G.length + 2) default).p.put = false ∧
    (X.getD (G.length + 1) default).p.data = (Y.getD (G.length + 3) default).p.data ∧ (X.getD (G.length + 1) default).p.fin = (Y.getD (G.length + 3) default).p.fin := by
  rw [runsA_of hf hr h1] at hT
  rw [runsA_of hf hr h2] at hA
  rw [runsA_of hf hr h3] at hX
  rw [runsA_of hf hr h4] at hY
  have hGl : (G.map toHo).length = G.length := List.length_map ..
  rw [List.map_append] at hT hA hX hY
  simp only [List.map_cons, List.map_nil, hs, hh, hc, hd] at hT hA hX hY
  have t0 := told_at hT
  rw [hGl] at t0
  rw [t0] at hp hid
  have a1 := told_at (l := G.map toHo ++ [.send]) (x := .hit id at_ by_) (m := [.carry id]) (by rw [List.append_assoc]; exact hA)
  have a2 := told_at (l := G.map toHo ++ [.send, .hit id at_ by_]) (x := .carry id) (m := []) (by rw [List.append_assoc]; exact hA)
  have x1 := told_at (l := G.map toHo ++ [.send]) (x := .drain cnt) (m := []) (by rw [List.append_assoc]; exact hX)
  have y1 := told_at (l := G.map toHo ++ [.send, .hit id at_ by_, .carry id]) (x := .drain cnt) (m := []) (by rw [List.append_assoc]; exact hY)
  rw [List.length_append, hGl] at a1 a2 x1 y1
  rw [endsA_app] at a1 a2 x1 y1
  obtain ⟨q1, q2, q3⟩ := hurt_core (endsA (newA room) (G.map toHo)) at_ by_ ha hb hp
  rw [hid] at q1 q2 q3
  simp only [List.length_cons, List.length_nil, endsA] at a1 a2 x1 y1
  rw [show (0 + 1 : Nat) = 1 from rfl] at a1 x1
  rw [show (0 + 1 + 1 : Nat) = 2 from rfl] at a2
  rw [show (0 + 1 + 1 + 1 : Nat) = 3 from rfl] at y1
  rw [a1, a2, x1, y1]
  exact ⟨q1, by rw [q2]; rfl, by rw [q2]; rfl, (q3 cnt).1, (q3 cnt).2⟩
end pipe
end Go.Proofs.Ytcllddkhnbnigaa
