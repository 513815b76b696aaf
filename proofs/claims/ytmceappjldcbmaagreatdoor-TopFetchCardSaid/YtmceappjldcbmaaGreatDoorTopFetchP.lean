/-
  PLAIN LAW: a file that is fetched from who serves, each reply whole: so many rounds at most; what is read is the file's. No program in sight.
-/
import Derived.Test.YtmceappjldcbmaaGreatDoorFetchAllP
import Derived.Test.YtmceappjldcbmaaGreatDoorSyncP
namespace Go.Proofs.YtmceappjldcbmaaGreatDoor
set_option linter.unusedVariables false
set_option linter.unusedSimpArgs false
namespace fetch
/-- a whole reply -/
def whole (S : List UInt8) (w : Wa) : List UInt8 := (S.drop w.1.toNat).take w.2.toNat
theorem whole_rep {S : List UInt8} {w : Wa} (h0 : 0 ≤ w.1) (h1 : 1 ≤ w.2) : Rep S w (whole S w) := by
  have hl : (whole S w).length = min w.2.toNat (S.length - w.1.toNat) := by unfold whole; rw [List.length_take, List.length_drop]
  refine ⟨fun h => List.length_eq_zero_iff.1 (by omega), fun h => ⟨by omega, by omega, by omega, ?_⟩⟩
  rw [hl]
  unfold whole
  rw [List.take_eq_take_iff, List.length_drop]; omega
def pot2 (n : Nat) (w : Wa) : Nat := if (n : Int) ≤ w.1 ∨ w.2 ≤ (n : Int) - w.1 then 1 else 2
def pots2 (n : Nat) : List Wa → Nat
  | [] => 0
  | w :: t => pot2 n w + pots2 n t
theorem pots2_app (n : Nat) : ∀ l m : List Wa, pots2 n (l ++ m) = pots2 n l + pots2 n m
  | [], m => by simp [pots2]
  | w :: t, m => by simp only [List.cons_append, pots2, pots2_app n t m]; omega
theorem pot2_le (n : Nat) (w : Wa) : 1 ≤ pot2 n w ∧ pot2 n w ≤ 2 := by unfold pot2; split <;> omega
def Phi2 (n : Nat) (f : Fe) : Nat := pots2 n f.out + 2 * ((2148 - f.front) / 100).toNat
theorem Phi2_more (n : Nat) : ∀ (k : Nat) (f : Fe) (l : List Wa), FOk f → Phi2 n (more k f l).1 ≤ Phi2 n f
  | 0, _, _, _ => Nat.le_refl _
  | k + 1, f, l, h => by
    unfold more
    split
    · rename_i c
      have ih := Phi2_more n k (ask1 f) (l ++ [(f.front, 100)]) (h.ask c)
      refine Nat.le_trans ih ?_
      obtain ⟨_, a2, _⟩ := (asks_iff f).1 c
      have hf := h.f0
      unfold Phi2
      simp only [ask1, pots2_app, pots2]
      have := (pot2_le n (f.front, 100)).2
      omega
    · exact Nat.le_refl _
theorem pots2_erase (n : Nat) (l : List Wa) (i : Nat) (h : i < l.length) : pots2 n l = pots2 n (l.eraseIdx i) + pot2 n (l.getD i default) := by
  conv => lhs; rw [split_at l i h]
  rw [List.eraseIdx_eq_take_drop_succ, pots2_app, pots2_app]
  simp only [pots2]; omega
theorem Phi2_mid {S : List UInt8} {f : Fe} (k : FI S f) {i : Nat} (hi : i < f.out.length) :
    Phi2 S.length (midF f ⟨(f.out.getD i default).1, (f.out.getD i default).2, whole S (f.out.getD i default)⟩).1 < Phi2 S.length f := by
  have hix : idx f.out ((f.out.getD i default).1, (f.out.getD i default).2) = i := idx_own k i hi
  have hin : f.out.getD i default ∈ f.out := by
    rw [List.getD_eq_getElem?_getD, List.getElem?_eq_getElem hi]; exact List.getElem_mem _
  have hw := k.ok.w _ hin
  have hc := k.c _ hin
  have hpe := pots2_erase S.length f.out i hi
  have hpos := (pot2_le S.length (f.out.getD i default)).1
  have hl : (whole S (f.out.getD i default)).length = min (f.out.getD i default).2.toNat (S.length - (f.out.getD i default).1.toNat) := by unfold whole; rw [List.length_take, List.length_drop]
  unfold midF
  simp only
  rw [hix]
  split
  · unfold Phi2; simp only; omega
  · split
    · rename_i c1 c2
      have hlt2 : pot2 S.length ((f.out.getD i default).1 + ((whole S (f.out.getD i default)).length : Int), (f.out.getD i default).2 - ((whole S (f.out.getD i default)).length : Int)) < pot2 S.length (f.out.getD i default) := by
        unfold pot2
        simp only
        rw [if_pos (by omega), if_neg (by omega)]; omega
      unfold Phi2
      simp only [pots2_app, pots2]
      omega
    · unfold Phi2; simp only; omega
theorem Phi2_step {S : List UInt8} {f : Fe} (k : FI S f) {i : Nat} (hi : i < f.out.length) :
    Phi2 S.length (gotF f ⟨(f.out.getD i default).1, (f.out.getD i default).2, whole S (f.out.getD i default)⟩).1 < Phi2 S.length f := by
  have hix : idx f.out ((f.out.getD i default).1, (f.out.getD i default).2) = i := idx_own k i hi
  have hin : f.out.getD i default ∈ f.out := by
    rw [List.getD_eq_getElem?_getD, List.getElem?_eq_getElem hi]; exact List.getElem_mem _
  have hw := k.ok.w _ hin
  have hl : (whole S (f.out.getD i default)).length = min (f.out.getD i default).2.toNat (S.length - (f.out.getD i default).1.toNat) := by unfold whole; rw [List.length_take, List.length_drop]
  have hdc : ¬ (f.out.getD i default).2 < ((whole S (f.out.getD i default)).length : Int) := by omega
  have hg : gotF f ⟨(f.out.getD i default).1, (f.out.getD i default).2, whole S (f.out.getD i default)⟩ = onF (midF f ⟨(f.out.getD i default).1, (f.out.getD i default).2, whole S (f.out.getD i default)⟩).1 (midF f ⟨(f.out.getD i default).1, (f.out.getD i default).2, whole S (f.out.getD i default)⟩).2 := by
    unfold gotF
    rw [if_neg (by simp only; rw [hix]; omega), if_neg hdc]
  have hm := (k.mid hi (whole_rep hw.1 hw.2.1)).1
  have hph := Phi2_mid k hi
  rw [hg]
  exact Nat.lt_of_le_of_lt (Phi2_more _ 6 _ _ hm.ok) hph
/-- no want begins behind the longest file -/
def Low (f : Fe) : Prop := ∀ x ∈ f.out, x.1 ≤ 2048
theorem Low.more : ∀ (k : Nat) (f : Fe) (l : List Wa), Low f → Low (more k f l).1
  | 0, _, _, h => h
  | k + 1, f, l, h => by
    unfold fetch.more
    split
    · rename_i c
      refine Low.more k _ _ fun x hx => ?_
      rcases List.mem_append.1 hx with hx | hx
      · exact h x hx
      · rw [List.mem_singleton.1 hx]
        exact ((asks_iff f).1 c).2.1
    · exact h
theorem Low.step {S : List UInt8} {f : Fe} (k : FI S f) (hS : S.length ≤ 900) (h : Low f) {i : Nat} (hi : i < f.out.length) :
    Low (gotF f ⟨(f.out.getD i default).1, (f.out.getD i default).2, whole S (f.out.getD i default)⟩).1 := by
  have hix : idx f.out ((f.out.getD i default).1, (f.out.getD i default).2) = i := idx_own k i hi
  have hin : f.out.getD i default ∈ f.out := by
    rw [List.getD_eq_getElem?_getD, List.getElem?_eq_getElem hi]; exact List.getElem_mem _
  have hw := k.ok.w _ hin
  have hl : (whole S (f.out.getD i default)).length = min (f.out.getD i default).2.toNat (S.length - (f.out.getD i default).1.toNat) := by unfold whole; rw [List.length_take, List.length_drop]
  have hdc : ¬ (f.out.getD i default).2 < ((whole S (f.out.getD i default)).length : Int) := by omega
  have hg : gotF f ⟨(f.out.getD i default).1, (f.out.getD i default).2, whole S (f.out.getD i default)⟩ = onF (midF f ⟨(f.out.getD i default).1, (f.out.getD i default).2, whole S (f.out.getD i default)⟩).1 (midF f ⟨(f.out.getD i default).1, (f.out.getD i default).2, whole S (f.out.getD i default)⟩).2 := by
    unfold gotF
    rw [if_neg (by simp only; rw [hix]; omega), if_neg hdc]
  rw [hg]
  refine Low.more 6 _ _ fun x hx => ?_
  have he : ∀ y ∈ f.out.eraseIdx i, y.1 ≤ 2048 := fun y hy => h y (List.mem_of_mem_eraseIdx hy)
  unfold midF at hx
  simp only at hx
  rw [hix] at hx
  split at hx
  · exact he x hx
  · split at hx
    · rename_i c1 c2
      rcases List.mem_append.1 hx with hx | hx
      · exact he x hx
      · rw [List.mem_singleton.1 hx]
        simp only
        omega
    · exact he x hx
theorem Low.first : Low (onF newF []).1 := Low.more 6 newF [] fun x hx => (nomatch hx)
theorem first_phi2 (S : List UInt8) : Phi2 S.length (onF newF []).1 ≤ 42 :=
  Nat.le_trans (Phi2_more _ 6 _ _ FOk.new) (by unfold Phi2; simp [newF, pots2])
end fetch
namespace serve
open tree path msg
/-- a want as a request -/
def wR (w : fetch.Wa) : Rq := readR 0 w.1 w.2
theorem wants_read {s : Sv} {F : List UInt8} (h : UpS s F) : ∀ (ws : List fetch.Wa), (∀ w ∈ ws, 0 ≤ w.1 ∧ w.1 ≤ 2048 ∧ 1 ≤ w.2 ∧ w.2 ≤ 100) → sruns s (ws.map wR) = ws.map (fun w => told ⟨0, 0, 0, fetch.whole F w, []⟩) ∧ sends s (ws.map wR) = s
  | [], _ => ⟨rfl, rfl⟩
  | w :: ws, hw => by
    obtain ⟨a, b, c, d⟩ := hw w (List.mem_cons_self ..)
    have hr := up_read h w.1.toNat w.2.toNat (by omega) (by omega)
    have e : svF s (wR w) = (s, told ⟨0, 0, 0, fetch.whole F w, []⟩) := by
      have e2 : wR w = readR 0 ((w.1.toNat : Nat) : Int) ((w.2.toNat : Nat) : Int) := by unfold wR; rw [Int.toNat_of_nonneg a, Int.toNat_of_nonneg (by omega)]
      rw [e2, hr]; rfl
    obtain ⟨i1, i2⟩ := wants_read h ws fun x hx => hw x (List.mem_cons_of_mem _ hx)
    constructor
    · show (svF s (wR w)).2 :: sruns (svF s (wR w)).1 (ws.map wR) = _
      rw [e, i1]; rfl
    · show sends (svF s (wR w)).1 (ws.map wR) = _
      rw [e]; exact i2
theorem fetch_law (d : List UInt8) (hd : d.length ≤ 2048) (ws : List fetch.Wa) (w : fetch.Wa) (hw : ∀ x ∈ ws ++ [w], 0 ≤ x.1 ∧ x.1 ≤ 2048 ∧ 1 ≤ x.2 ∧ x.2 ≤ 100) :
    (sruns svNew (upl d ++ (ws ++ [w]).map wR)).getD ((upl d).length + ws.length) default = told ⟨0, 0, 0, fetch.whole d w, []⟩ := by
  have h := wants_read (upl_file d hd) (ws ++ [w]) hw
  rw [sruns_app, getD_app_right _ _ _ (by rw [sruns_len]; omega), sruns_len, Nat.add_sub_cancel_left, h.1, List.map_append, getD_app_right _ _ _ (by rw [List.length_map]; exact Nat.le_refl _), List.length_map, Nat.sub_self]
  rfl
end serve
end Go.Proofs.YtmceappjldcbmaaGreatDoor
