/-
  PLAIN LAW: a file that is uploaded, and another one over it, is read chunk by chunk.
-/
import Derived.Test.YtmceappjldcbmaaDoorServeU
import Derived.Test.YtmceappjldcbmaaDoorServeV
namespace Go.Proofs.YtmceappjldcbmaaDoor
set_option linter.unusedVariables false
set_option linter.unusedSimpArgs false
namespace serve
open tree path msg
/-- requests that read a file chunk by chunk -/
def rdR (L j : Nat) : Rq := readR 0 ((100 * j : Nat) : Int) ((min 100 (L - 100 * j) : Nat) : Int)
def rds (L m : Nat) : List Rq := (List.range m).map (rdR L)
def upl (d : List UInt8) : List Rq := openR fxP 23 :: chunks d (nch d.length)
theorem upl_file (d : List UInt8) (hd : d.length ≤ 2048) : UpS (sends svNew (upl d)) d := by
  have h := up_chunks up_new.2 hd (nch d.length) (by unfold nch; omega)
  rw [over_all, List.drop_nil, List.append_nil] at h
  exact h
theorem upl2_file (a d : List UInt8) (ha : a.length ≤ 2048) (hd : d.length ≤ 2048) : UpS (sends svNew (upl a ++ chunks d (nch d.length))) (d ++ a.drop d.length) := by
  rw [sends_app]
  have h := up_chunks (upl_file a ha) hd (nch d.length) (by unfold nch; omega)
  rw [over_all] at h
  exact h
theorem reads_all {s : Sv} {F : List UInt8} (h : UpS s F) (L : Nat) (hL : L ≤ 2048) : ∀ m, 100 * m < L + 100 → sruns s (rds L m) = (List.range m).map (fun j => told ⟨0, 0, 0, (F.drop (100 * j)).take (min 100 (L - 100 * j)), []⟩) ∧ sends s (rds L m) = s
  | 0, _ => ⟨rfl, rfl⟩
  | m + 1, hm => by
    obtain ⟨i1, i2⟩ := reads_all h L hL m (by omega)
    have e : rds L (m + 1) = rds L m ++ [rdR L m] := by unfold rds; rw [List.range_succ, List.map_append]; rfl
    obtain ⟨s1, s2⟩ := sruns_snoc s (rds L m) (rdR L m)
    have hr := up_read h (100 * m) (min 100 (L - 100 * m)) (by omega) (by omega)
    rw [i2] at s1 s2
    have hr' : svF s (rdR L m) = (s, told ⟨0, 0, 0, (F.drop (100 * m)).take (min 100 (L - 100 * m)), []⟩) := hr
    rw [e, s1, s2, i1, hr', List.range_succ, List.map_append]
    exact ⟨rfl, rfl⟩
theorem sync_law (old now : List UInt8) (ho : old.length ≤ 2048) (hn : now.length ≤ 2048) :
    let U := upl old ++ chunks now (nch now.length)
    let l := U ++ rds now.length (nch now.length) ++ [statR fxP]
    (∀ j, j ≤ nch now.length → ((sruns svNew l).getD (U.length + j) default).code = 0 ∧ now.take (100 * j) ++ ((sruns svNew l).getD (U.length + j) default).d = now.take (100 * (j + 1))) ∧ ((sruns svNew l).getD (U.length + nch now.length) default).size = ((max old.length now.length : Nat) : Int) := by
  intro U l
  have hU := upl2_file old now ho hn
  obtain ⟨F, hF⟩ : ∃ F, now ++ old.drop now.length = F := ⟨_, rfl⟩
  have hFl : F.length = max old.length now.length := by rw [← hF, List.length_append, List.length_drop]; omega
  rw [hF] at hU
  have hm : 100 * nch now.length < now.length + 100 := by unfold nch; omega
  have hm2 : now.length ≤ 100 * nch now.length := by unfold nch; omega
  obtain ⟨r1, r2⟩ := reads_all hU now.length hn (nch now.length) hm
  have hst := up_stat hU
  have e : sruns svNew l = sruns svNew U ++ (sruns (sends svNew U) (rds now.length (nch now.length)) ++ [told ⟨0, 2, F.length, [], []⟩]) := by
    show sruns svNew (U ++ rds now.length (nch now.length) ++ [statR fxP]) = _
    rw [List.append_assoc, sruns_app, (sruns_snoc _ _ _).1, r2, hst]
  have hat : ∀ j, (sruns svNew l).getD (U.length + j) default = ((List.range (nch now.length)).map (fun j => told ⟨0, 0, 0, (F.drop (100 * j)).take (min 100 (now.length - 100 * j)), []⟩) ++ [told ⟨0, 2, F.length, [], []⟩]).getD j default := fun j => by
    rw [e, getD_app_right _ _ _ (by rw [sruns_len]; omega), sruns_len, Nat.add_sub_cancel_left, r1]
  have hlast : (sruns svNew l).getD (U.length + nch now.length) default = told ⟨0, 2, F.length, [], []⟩ := by
    rw [hat, getD_app_right _ _ _ (by rw [List.length_map, List.length_range]; exact Nat.le_refl _), List.length_map, List.length_range, Nat.sub_self]; rfl
  refine ⟨fun j hj => ?_, by rw [hlast, ← hFl]; rfl⟩
  rcases Nat.lt_or_eq_of_le hj with c | rfl
  · have hh : (sruns svNew l).getD (U.length + j) default = told ⟨0, 0, 0, (F.drop (100 * j)).take (min 100 (now.length - 100 * j)), []⟩ := by
      rw [hat, getD_app_left _ _ _ (by rw [List.length_map, List.length_range]; exact c), List.getD_eq_getElem?_getD, List.getElem?_map, List.getElem?_range c]; rfl
    rw [hh]
    refine ⟨rfl, ?_⟩
    show now.take (100 * j) ++ (F.drop (100 * j)).take (min 100 (now.length - 100 * j)) = _
    rw [← hF, List.drop_append_of_le_length (by omega), List.take_append_of_le_length (by rw [List.length_drop]; omega), show 100 * (j + 1) = 100 * j + 100 by omega, List.take_add]
    congr 1
    rw [List.take_eq_take_iff, List.length_drop]; omega
  · rw [hlast]
    refine ⟨rfl, ?_⟩
    show now.take _ ++ [] = _
    rw [List.append_nil, List.take_of_length_le (by omega), List.take_of_length_le (by omega)]
end serve
end Go.Proofs.YtmceappjldcbmaaDoor
