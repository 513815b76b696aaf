/-
  CONTRACTS of package bucket, and of packthreadkeep.Packets, bucketed. Conditions: as each theorem names them.
-/
import Derived.Test.YtpfpjlhcmdpdkaaSl
import Derived.Test.YtpfpjlhcmdpdkaaPicked
namespace Go.Proofs.Ytpfpjlhcmdpdkaa
open Go.RowKit
set_option linter.unusedVariables false

/-- packets as cells -/
def pks : List (Int × Int) → List Value
  | [] => []
  | p :: t => .int .i64 p.1 :: .int .i64 p.2 :: pks t
theorem pks_len : ∀ l : List (Int × Int), (pks l).length = l.length * 2
  | [] => rfl
  | p :: t => by simp [pks, pks_len t]; omega
theorem pks_at : ∀ (l : List (Int × Int)) (i : Nat), i < l.length → (pks l)[i * 2]? = some (.int .i64 (l.getD i (0, 0)).1) ∧ (pks l)[i * 2 + 1]? = some (.int .i64 (l.getD i (0, 0)).2)
  | [], i, h => by simp at h
  | p :: t, 0, _ => by simp [pks]
  | p :: t, i + 1, h => by
    have ih := pks_at t i (by simpa using h)
    have e : (i + 1) * 2 = i * 2 + 1 + 1 := by omega
    rw [e]
    simpa [pks] using ih
theorem pks_append (l m : List (Int × Int)) : pks (l ++ m) = pks l ++ pks m := by
  induction l with
  | nil => rfl
  | cons p t ih => simp [pks, ih]
theorem pks_one : ∀ (l : List (Int × Int)), ∀ u ∈ pks l, u.oneCell' = true
  | [], u, h => by simp [pks] at h
  | p :: t, u, h => by
    simp only [pks, List.mem_cons] at h
    rcases h with rfl | rfl | h
    · rfl
    · rfl
    · exact pks_one t u h

def bools (l : List Bool) : List Value := l.map Value.bool
theorem bools_one (l : List Bool) : ∀ u ∈ bools l, u.oneCell' = true := by
  intro u hu; obtain ⟨b, _, rfl⟩ := List.mem_map.1 hu; rfl

theorem elem_pk : Elem Try.prog 24 27 2 16 := .mk' Try.underlying24 (.agg #[.int .i64 0, .int .i64 0]) (by kernel_rfl) rfl (by decide)
theorem elem_bool : Elem Try.prog 28 4 1 1 := .mk' Try.underlying28 (.bool false) (by kernel_rfl) rfl (by decide)

namespace bucket
theorem in_yes (n low high : Int) (w : World) (h1 : low ≤ n) (h2 : n ≤ high) :
    Calls Try.prog 29 #[.int .i64 n, .int .i64 low, .int .i64 high] w fun e w' => e = .returned (.bool true) ∧ w = w' := by
  refine calls_hide fun R hR => ?_
  go_enter Try.func29, Try.ntmps29
  go_wp2
  exact hR.out _ _ ⟨rfl, rfl⟩
theorem may_yes (r u : Int) (w : World) (hr : 0 ≤ r ∧ r ≤ 1000) (hu : 0 ≤ u ∧ u ≤ 100000) :
    Calls Try.prog 28 #[.int .i64 r, .int .i64 u] w fun e w' => e = .returned (.bool true) ∧ w = w' := by
  refine calls_hide fun R hR => ?_
  go_enter Try.func28, Try.ntmps28
  go_wp2_with fail
  refine (in_yes _ _ _ _ hr.1 hr.2).mono ?_
  rintro e w' ⟨rfl, rfl⟩
  go_wp2_with fail
  refine (in_yes _ _ _ _ hu.1 hu.2).mono ?_
  rintro e w' ⟨rfl, rfl⟩
  go_wp2
  exact hR.out _ _ ⟨rfl, rfl⟩
theorem bound_any (r u t : Int) (w : World) (hr : 0 ≤ r ∧ r ≤ 1000) (hu : 0 ≤ u ∧ u ≤ 100000) (ht : 0 ≤ t ∧ t ≤ 1048576) :
    Calls Try.prog 18 #[.int .i64 r, .int .i64 u, .int .i64 t] w fun e w' => e = .returned (.tuple #[.int .i64 (u + r * t), .int .i64 0]) ∧ w = w' := by
  refine calls_hide fun R hR => ?_
  have hp : 0 ≤ r * t ∧ r * t ≤ 1048576000 := ⟨Int.mul_nonneg hr.1 ht.1, by
    have h1 : r * t ≤ 1000 * t := Int.mul_le_mul_of_nonneg_right hr.2 ht.1
    omega⟩
  go_enter Try.func18, Try.ntmps18
  go_wp2_with fail
  refine (may_yes _ _ _ hr hu).mono ?_
  rintro e w' ⟨rfl, rfl⟩
  go_wp2_with fail
  refine (in_yes _ _ _ _ ht.1 ht.2).mono ?_
  rintro e w' ⟨rfl, rfl⟩
  obtain ⟨hr1, hr2⟩ := hr
  obtain ⟨hu1, hu2⟩ := hu
  obtain ⟨hp1, hp2⟩ := hp
  go_wp2
  exact hR.out _ _ ⟨rfl, rfl⟩

def At (l : List (Int × Int)) (i : Nat) : Int := (l.getD i (0, 0)).1
def Sz (l : List (Int × Int)) (i : Nat) : Int := (l.getD i (0, 0)).2

/-- what there is for packet k -/
def avail (r u : Int) (l : List (Int × Int)) : Nat → Int
  | 0 => u
  | k + 1 => min u ((if Sz l k ≤ avail r u l k then avail r u l k - Sz l k else avail r u l k) + r * (At l (k + 1) - At l k))
def pass (r u : Int) (l : List (Int × Int)) (k : Nat) : Bool := decide (Sz l k ≤ avail r u l k)
/-- what is left behind k packets; the last packet's time -/
def left (r u : Int) (l : List (Int × Int)) : Nat → Int
  | 0 => u
  | k + 1 => if Sz l k ≤ avail r u l k then avail r u l k - Sz l k else avail r u l k
def lastAt (l : List (Int × Int)) : Nat → Int
  | 0 => 0
  | k + 1 => At l k
def passes (r u : Int) (l : List (Int × Int)) (n : Nat) : List Bool := (List.range n).map (pass r u l)

/-- packets that may be played -/
structure OK (l : List (Int × Int)) : Prop where
  a0 : ∀ i, i < l.length → 0 ≤ At l i ∧ At l i ≤ 1048576
  s0 : ∀ i, i < l.length → 1 ≤ Sz l i ∧ Sz l i ≤ 1500
  up : ∀ i, i + 1 < l.length → At l i ≤ At l (i + 1)

theorem avail_bd (r u : Int) (l : List (Int × Int)) (hr : 0 ≤ r) (hu : 0 ≤ u) (h : OK l) : ∀ k, k < l.length → 0 ≤ avail r u l k ∧ avail r u l k ≤ u := by
  intro k
  induction k with
  | zero => intro _; simp only [avail]; omega
  | succ k ih =>
    intro hk
    have ih := ih (by omega)
    have h1 := h.up k hk
    have h2 : 0 ≤ r * (At l (k + 1) - At l k) := Int.mul_nonneg hr (by omega)
    simp only [avail]
    split <;> omega
theorem left_bd (r u : Int) (l : List (Int × Int)) (hr : 0 ≤ r) (hu : 0 ≤ u) (h : OK l) : ∀ k, k ≤ l.length → 0 ≤ left r u l k ∧ left r u l k ≤ u := by
  intro k hk
  cases k with
  | zero => simp only [left]; omega
  | succ k =>
    have h1 := avail_bd r u l hr hu h k (by omega)
    have h2 := h.s0 k (by omega)
    simp only [left]
    split <;> omega

theorem avail_step (r u : Int) (l : List (Int × Int)) (h : OK l) (k : Nat) (h0 : 0 < k) (hk : k < l.length) : avail r u l k = min u (left r u l k + r * (At l k - lastAt l k)) ∧ lastAt l k ≤ At l k ∧ 0 ≤ lastAt l k := by
  cases k with
  | zero => omega
  | succ k => exact ⟨rfl, h.up k hk, (h.a0 k (by omega)).1⟩

theorem passes_snoc (r u : Int) (l : List (Int × Int)) (k : Nat) : bools (passes r u l (k + 1)) = bools (passes r u l k) ++ [.bool (pass r u l k)] := by
  simp [passes, bools, List.range_succ]
theorem passes_len (r u : Int) (l : List (Int × Int)) (k : Nat) : (passes r u l k).length = k := by simp [passes]

set_option maxHeartbeats 4000000 in
theorem play_any (r u : Int) (ao : Option Addr) (n c : Nat) (l : List (Int × Int)) (w : World) (h : Sl w ao n c 2 (pks l)) (hr : 0 ≤ r ∧ r ≤ 1000) (hu : 0 ≤ u ∧ u ≤ 100000) (hn : n ≤ 300) (hl : OK l) :
    Calls Try.prog 27 #[.int .i64 r, .int .i64 u, .slice ao n c] w fun e w' => ∃ ao' c', e = .returned (.tuple #[.slice ao' n c', .int .i64 0]) ∧ Own w' w.heap.size 4 1 ao' n c' (bools (passes r u l n)) ∧ Below w.heap.size w w' := by
  refine calls_hide fun R hR => ?_
  have hlen : l.length = n := by have := h.len; rw [pks_len] at this; omega
  have H := Lib.hid h
  have HL := Lib.hid hl
  have HN := Lib.hid hlen
  have HU := Lib.hid hu
  have HRr := Lib.hid hr
  clear h hl hlen
  have hn' : (n : Int) ≤ 300 := by omega
  go_enter Try.func27, Try.ntmps27
  go_wp2_with fail
  refine (may_yes _ _ _ hr hu).mono ?_
  rintro e w' ⟨rfl, rfl⟩
  obtain ⟨hr1, hr2⟩ := hr
  obtain ⟨hu1, hu2⟩ := hu
  go_wp2_with fail
  go_loopw [8, 9, 10, 24] (fun v cr la i wr => ∃ (k : Nat) (ao' : Option Addr) (c' : Nat), k ≤ n ∧ i = .int .i64 k ∧ v = .slice ao' k c' ∧ cr = .int .i64 (left r u l k) ∧ la = .int .i64 (lastAt l k) ∧ Hid (Own wr w.heap.size 4 1 ao' k c' (bools (passes r u l k)) ∧ Below w.heap.size w wr)) (fun _ _ _ i _ => n - (intOf i).toNat)
  case atStart => exact ⟨0, none, 0, by omega, rfl, rfl, rfl, rfl, Lib.hid ⟨Own.nil _ _ _ _, Below.refl _ _⟩⟩
  case round =>
    obtain ⟨k, ao', c', hk, rfl, rfl, rfl, rfl, hH⟩ := hrel
    obtain ⟨hO, hbr⟩ := hH.out
    have hsr := hbr.size
    have HO := Lib.hid hO
    have HBR := Lib.hid hbr
    clear hH hO hbr
    by_cases hlt : k < n
    · obtain ⟨bb, oo, rfl, hbb, hcc⟩ := (H.out.below HBR.out).get (by omega)
      obtain ⟨p1, p2⟩ := pks_at l k (by rw [HN.out]; exact hlt)
      have c0 := hcc _ _ p1
      have c1 := hcc _ _ p2
      obtain ⟨hA1, hA2⟩ := HL.out.a0 k (by rw [HN.out]; exact hlt)
      obtain ⟨hS1, hS2⟩ := HL.out.s0 k (by rw [HN.out]; exact hlt)
      have hB := avail_bd r u l HRr.out.1 HU.out.1 HL.out k (by rw [HN.out]; exact hlt)
      have hav : Hid (left r u l (k + 1) = if Sz l k ≤ avail r u l k then avail r u l k - Sz l k else avail r u l k) := Lib.hid rfl
      have hps : Hid (pass r u l k = decide (Sz l k ≤ avail r u l k)) := Lib.hid rfl
      have hlast : Hid (lastAt l (k + 1) = At l k) := Lib.hid rfl
      have hsn := Lib.hid (passes_snoc r u l k)
      clear p1 p2 hcc
      change wr.cell? _ = some (.int .i64 (At l k)) at c0
      change wr.cell? _ = some (.int .i64 (Sz l k)) at c1
      rw [← Nat.add_assoc] at c1
      have hcr := left_bd r u l HRr.out.1 HU.out.1 HL.out k (by rw [HN.out]; exact hk)
      have hst : (k = 0 ∧ avail r u l k = left r u l k) ∨ (0 < k ∧ avail r u l k = min u (left r u l k + r * (At l k - lastAt l k)) ∧ lastAt l k ≤ At l k ∧ 0 ≤ lastAt l k) := by
        by_cases h0 : k = 0
        · subst h0; exact .inl ⟨rfl, rfl⟩
        · exact .inr ⟨by omega, avail_step r u l HL.out k (by omega) (by rw [HN.out]; exact hlt)⟩
      generalize left r u l k = cr at hcr hst ⊢
      generalize lastAt l k = la at hst ⊢
      generalize At l k = a at c0 hA1 hA2 hst hlast
      generalize Sz l k = sz at c1 hS1 hS2 hav hps
      generalize avail r u l k = av at hB hst hav hps
      generalize pass r u l k = ps at hps hsn
      obtain ⟨hB1, hB2⟩ := hB
      obtain ⟨hcr1, hcr2⟩ := hcr
      have hbb : bb < wr.heap.size := by omega
      have key : (k ≤ 0 ∧ cr = av) ∨ (0 < k ∧ la ≤ a ∧ 0 ≤ la ∧ 0 ≤ r * (a - la) ∧ r * (a - la) ≤ 1048576000 ∧ ((u ≤ cr + r * (a - la) ∧ u = av) ∨ (cr + r * (a - la) < u ∧ cr + r * (a - la) = av))) := by
        rcases hst with ⟨h, h'⟩ | ⟨h0, h1, h2, h3⟩
        · exact .inl ⟨by omega, h'.symm⟩
        · refine .inr ⟨h0, h2, h3, Int.mul_nonneg HRr.out.1 (by omega), ?_, by omega⟩
          have h4 : r * (a - la) ≤ 1000 * (a - la) := Int.mul_le_mul_of_nonneg_right HRr.out.2 (by omega)
          omega
      clear hst
      have fin : ∀ (ao2 : Option Addr) (c2 : Nat) (w2 : World) (o : Obj), Own w2 w.heap.size 4 1 ao2 (k + 1) c2 (bools (passes r u l k) ++ [.bool ps]) → Grew ((wr.alloc o).alloc (.cells #[.bool ps] 4)) w2 ao' ao2 → Own w2 w.heap.size 4 1 ao2 (k + 1) c2 (bools (passes r u l (k + 1))) ∧ Below w.heap.size w w2 := by
        intro ao2 c2 w2 o h1 h2
        exact ⟨by rw [hsn.out]; exact h1, h2.below ((HBR.out.alloc hsr _).alloc (by simp; omega) _) (by simp; omega) (fun k hk => (HO.out.blk_lt k hk).1)⟩
      have FIN := Lib.hid fin
      have B1 := Lib.hid (show (k + 1) * 1 ≤ 140737488355328 by omega)
      have B2 := Lib.hid (show k + 1 ≤ maxLen by unfold maxLen; omega)
      have SZ := Lib.hid (show ∀ o, (wr.alloc o).heap.size = wr.heap.size + 1 from fun o => by simp)
      have B3 := Lib.hid (show ∀ o o', w.heap.size ≤ ((wr.alloc o).alloc o').heap.size from fun o o' => by simp; omega)
      clear fin hsn
      by_cases hp : sz ≤ av
      · have hcr' : Hid (left r u l (k + 1) = av - sz) := Lib.hid (by rw [hav.out, if_pos hp])
        obtain rfl : true = ps := by rw [hps.out]; simp [hp]
        have hd : decide (sz ≤ av) = true := by simpa using hp
        clear hav hps
        rcases key with ⟨hk0, rfl⟩ | ⟨h0, h1, h2, h3, h4, ⟨h5, rfl⟩ | ⟨h5, rfl⟩⟩
        all_goals
          go_wp2_with fail
          refine (in_yes _ _ _ _ hA1 hA2).mono ?_
          rintro e w' ⟨rfl, rfl⟩
          go_wp2_with fail
          refine (in_yes _ _ _ _ hS1 hS2).mono ?_
          rintro e w' ⟨rfl, rfl⟩
          go_wp2_with (at_builtin; (refine wpList_append_sl rfl _ _ _ rfl _ _ _ w.heap.size elem_bool ao' k c' _ rfl ((HO.out.alloc _).alloc _) _ 1 1 (bools [true]) rfl (Sl.litB _ _ 1 1 (bools [true]) _ (SZ.out _) rfl (by omega) (bools_one _)) B1.out B2.out (B3.out _ _) ?_))
          intro ao2 c2 w2 hown2 hg2
          have hf := FIN.out ao2 c2 w2 _ hown2 hg2
          clear hown2 hg2
          have HF := Lib.hid hf
          clear hf
          go_wp2
          go_roundw
          case rel => exact ⟨k + 1, ao2, c2, by omega, by go_num, rfl, val_int (by rw [hcr'.out]), val_int hlast.out.symm, HF⟩
          case measure => simp [intOf]; omega
      · have hcr' : Hid (left r u l (k + 1) = av) := Lib.hid (by rw [hav.out, if_neg hp])
        obtain rfl : false = ps := by rw [hps.out]; simp; omega
        have hd : decide (sz ≤ av) = false := by simpa using hp
        clear hav hps
        rcases key with ⟨hk0, rfl⟩ | ⟨h0, h1, h2, h3, h4, ⟨h5, rfl⟩ | ⟨h5, rfl⟩⟩
        all_goals
          go_wp2_with fail
          refine (in_yes _ _ _ _ hA1 hA2).mono ?_
          rintro e w' ⟨rfl, rfl⟩
          go_wp2_with fail
          refine (in_yes _ _ _ _ hS1 hS2).mono ?_
          rintro e w' ⟨rfl, rfl⟩
          go_wp2_with (at_builtin; (refine wpList_append_sl rfl _ _ _ rfl _ _ _ w.heap.size elem_bool ao' k c' _ rfl ((HO.out.alloc _).alloc _) _ 1 1 (bools [false]) rfl (Sl.litB _ _ 1 1 (bools [false]) _ (SZ.out _) rfl (by omega) (bools_one _)) B1.out B2.out (B3.out _ _) ?_))
          intro ao2 c2 w2 hown2 hg2
          have hf := FIN.out ao2 c2 w2 _ hown2 hg2
          clear hown2 hg2
          have HF := Lib.hid hf
          clear hf
          go_wp2
          go_roundw
          case rel => exact ⟨k + 1, ao2, c2, by omega, by go_num, rfl, val_int (by rw [hcr'.out]), val_int hlast.out.symm, HF⟩
          case measure => simp [intOf]; omega
    · obtain rfl : k = n := by omega
      go_wp2
      exact hR.out _ _ ⟨ao', c', rfl, HO.out, HBR.out⟩
end bucket
end Go.Proofs.Ytpfpjlhcmdpdkaa
