/-
  PLAIN LAWS of who serves: a file that is uploaded chunk by chunk is there, and read.
-/
import Derived.Test.YtmceappjldcbmaaGreatDoorServeL
namespace Go.Proofs.YtmceappjldcbmaaGreatDoor
set_option linter.unusedVariables false
set_option linter.unusedSimpArgs false
namespace serve
open tree path msg
def fx : Nm := [102]
def fxP : Nm := 47 :: fx
theorem walk_fx : walkF [] (47 :: fx) = ([fx], 0) := by decide
/-- the file with these bytes is open at the first place -/
structure UpS (s : Sv) (b : List UInt8) : Prop where
  at_ : HAt s 0 0 fxP 23
  file : FileAt s.t fxP b
theorem up_new : (svF svNew (openR fxP 23)).2.code = 0 ∧ UpS (svF svNew (openR fxP 23)).1 [] := by
  rcases open_new (s := svNew) (l := []) TrOk.new rfl (x := fx) rfl walk_fx (how := 23) (by decide) (by decide) with ⟨c, _⟩ | ⟨i, hv, hc, e⟩
  · rcases c with c | c
    · exact nomatch c
    · exact absurd c (by decide : ¬ (1 : Int) = 40)
  · have hi : i = 0 := by
      have : vac 0 svNew.ps = some 0 := rfl
      rw [this] at hv; exact (Option.some.inj hv).symm
    subst hi
    rw [show fxP = 47 :: fx from rfl, e]
    refine ⟨rfl, ⟨⟨by decide, rfl⟩, ?_⟩⟩
    unfold opened
    rw [if_pos (by show has 23 16; decide)]
    simp only
    have hf := new_file (t := svNew.t) TrOk.new (l := []) rfl (x := fx) rfl walk_fx (svNew.t.count + 1)
    have := cut_file hf
    exact this
theorem up_write {s : Sv} {b : List UInt8} (h : UpS s b) (k : Nat) (d : List UInt8) (hd : d.length ≤ 100) (hk : k + d.length ≤ 2048) : (svF s (writeR 0 k d)).2.code = 0 ∧ UpS (svF s (writeR 0 k d)).1 (wantF b d k) := by
  have w := write_at h.at_ k d hd
  rw [if_pos (by decide)] at w
  show (svF s (writeR (hnd 0 0) k d)).2.code = 0 ∧ UpS (svF s (writeR (hnd 0 0) k d)).1 _
  rw [w]
  obtain ⟨p1, p2⟩ := put_file h.file k d hk
  refine ⟨?_, ⟨h.at_, p2⟩⟩
  show ((doF s.t (putA' fxP k d)).2).code = 0
  rw [p1]
theorem up_read {s : Sv} {b : List UInt8} (h : UpS s b) (k n : Nat) (hk : k ≤ 2048) (hn : 1 ≤ n ∧ n ≤ 100) : svF s (readR 0 k n) = (s, told ⟨0, 0, 0, (b.drop k).take n, []⟩) := by
  have w := read_at h.at_ k n hn
  rw [if_pos (by decide), get_file h.file k n hk (by omega)] at w
  show svF s (readR (hnd 0 0) k n) = _
  rw [w]
def chunk (d : List UInt8) (j : Nat) : Rq := writeR 0 ((100 * j : Nat) : Int) ((d.drop (100 * j)).take 100)
def chunks (d : List UInt8) (m : Nat) : List Rq := (List.range m).map (chunk d)
/-- bytes laid over others, so many chunks of them -/
def over (b d : List UInt8) (j : Nat) : List UInt8 := d.take (100 * j) ++ b.drop (min (100 * j) d.length)
theorem over_step (b d : List UInt8) (j : Nat) (h : 100 * j < d.length) : wantF (over b d j) ((d.drop (100 * j)).take 100) (100 * j) = over b d (j + 1) := by
  obtain ⟨k, hk⟩ : ∃ k, 100 * j = k := ⟨_, rfl⟩
  unfold over
  rw [show 100 * (j + 1) = k + 100 by omega, hk, Nat.min_eq_left (show k ≤ d.length by omega)]
  obtain ⟨q, hq⟩ : ∃ q, min (k + 100) d.length = k + q ∧ ((d.drop k).take 100).length = q := ⟨min (k + 100) d.length - k, by omega, by rw [List.length_take, List.length_drop]; omega⟩
  rw [hq.1]
  unfold wantF lay
  rw [hq.2]
  have ht : (d.take k).length = k := by rw [List.length_take]; omega
  have hF : (d.take k ++ b.drop k).length = k + (b.length - k) := by rw [List.length_append, ht, List.length_drop]
  rw [hF, List.append_assoc (d.take k), List.take_append_of_le_length (by rw [ht]; exact Nat.le_refl _), List.take_of_length_le (by rw [ht]; exact Nat.le_refl _)]
  have e1 : d.take k ++ (d.drop k).take 100 = d.take (k + 100) := by rw [List.take_add]
  rw [e1]
  congr 1
  rw [List.drop_append, ht, List.drop_of_length_le (by rw [ht]; omega), List.nil_append, show k + q - k = q by omega]
  rw [List.drop_append, List.drop_drop, List.length_drop]
  rcases Nat.le_total (k + q) b.length with c | c
  · rw [show k + q - (k + (b.length - k)) = 0 by omega, List.replicate_zero, List.drop_nil, List.append_nil]
  · rw [List.drop_of_length_le (l := b) (by omega), List.nil_append, List.drop_replicate, show k + q - (k + (b.length - k)) - (q - (b.length - k)) = 0 by omega]; rfl
theorem sruns_snoc (s : Sv) (l : List Rq) (r : Rq) : sruns s (l ++ [r]) = sruns s l ++ [(svF (sends s l) r).2] ∧ sends s (l ++ [r]) = (svF (sends s l) r).1 := by
  rw [sruns_app, sends_app]; exact ⟨rfl, rfl⟩
theorem up_chunks {s : Sv} {b d : List UInt8} (h : UpS s b) (hd : d.length ≤ 2048) : ∀ j, 100 * j < d.length + 100 → UpS (sends s (chunks d j)) (over b d j)
  | 0, _ => by
    show UpS s _
    unfold over
    rw [show 100 * 0 = 0 from rfl, Nat.zero_min]; exact h
  | j + 1, hj => by
    have ih := up_chunks h hd j (by omega)
    unfold chunks
    rw [List.range_succ, List.map_append, List.map_singleton, (sruns_snoc _ _ _).2]
    have := (up_write ih (100 * j) ((d.drop (100 * j)).take 100) (by rw [List.length_take]; omega) (by rw [List.length_take, List.length_drop]; omega)).2
    rw [over_step b d j (by omega)] at this
    exact this
/-- how many chunks there are -/
def nch (n : Nat) : Nat := (n + 99) / 100
theorem over_all (b d : List UInt8) : over b d (nch d.length) = d ++ b.drop d.length := by
  unfold over nch
  rw [List.take_of_length_le (by omega), Nat.min_eq_right (by omega)]
end serve
end Go.Proofs.YtmceappjldcbmaaGreatDoor
