/-
  CONTRACTS of packthreadkeep.Packets, bucketed. Conditions: as each theorem names them.
-/
import Derived.Test.YtpfpjlhcmdpdkaaBucket
namespace Go.Proofs.Ytpfpjlhcmdpdkaa
open Go.RowKit
set_option linter.unusedVariables false

namespace bucket
theorem at_append_lt (l m : List (Int × Int)) (i : Nat) (h : i < l.length) : At (l ++ m) i = At l i ∧ Sz (l ++ m) i = Sz l i := by
  simp [At, Sz, List.getD_eq_getElem?_getD, List.getElem?_append_left h]
theorem at_append_eq (l : List (Int × Int)) (x : Int × Int) : At (l ++ [x]) l.length = x.1 ∧ Sz (l ++ [x]) l.length = x.2 := by
  simp [At, Sz, List.getD_eq_getElem?_getD]
theorem lastAt_append (l m : List (Int × Int)) (k : Nat) (h : k ≤ l.length) : lastAt (l ++ m) k = lastAt l k := by
  cases k with
  | zero => rfl
  | succ k => exact (at_append_lt l m k (by omega)).1

/-- packets of raw numbers -/
structure PK (l : List (Int × Int)) : Prop where
  a0 : ∀ i, i < l.length → 0 ≤ At l i ∧ At l i ≤ 11 * ((i : Int) + 1)
  s0 : ∀ i, i < l.length → 1 ≤ Sz l i ∧ Sz l i ≤ 300
  up : ∀ i, i + 1 < l.length → At l i ≤ At l (i + 1)
theorem PK.nil : PK [] := ⟨fun i h => by simp at h, fun i h => by simp at h, fun i h => by simp at h⟩
theorem PK.last {l : List (Int × Int)} (h : PK l) (k : Nat) (hk : k ≤ l.length) : 0 ≤ lastAt l k ∧ lastAt l k ≤ 11 * (k : Int) := by
  cases k with
  | zero => simp [lastAt]
  | succ k => have := h.a0 k (by omega); simp only [lastAt]; omega
theorem PK.ok {l : List (Int × Int)} (h : PK l) (hn : l.length ≤ 1000) : OK l :=
  ⟨fun i hi => by have := h.a0 i hi; omega, fun i hi => by have := h.s0 i hi; omega, h.up⟩
theorem PK.snoc {l : List (Int × Int)} (h : PK l) (d s : Int) (hd : 0 ≤ d ∧ d < 12) (hs : 0 ≤ s ∧ s < 300) : PK (l ++ [(lastAt l l.length + d, 1 + s)]) := by
  have e := at_append_eq l (lastAt l l.length + d, 1 + s)
  refine ⟨fun i hi => ?_, fun i hi => ?_, fun i hi => ?_⟩
  · simp at hi
    by_cases h1 : i < l.length
    · rw [(at_append_lt l _ i h1).1]; exact h.a0 i h1
    · obtain rfl : i = l.length := by omega
      have := h.last l.length (by omega)
      rw [e.1]; simp only; omega
  · simp at hi
    by_cases h1 : i < l.length
    · rw [(at_append_lt l _ i h1).2]; exact h.s0 i h1
    · obtain rfl : i = l.length := by omega
      rw [e.2]; simp only; omega
  · simp at hi
    rw [(at_append_lt l _ i (by omega)).1]
    by_cases h1 : i + 1 < l.length
    · rw [(at_append_lt l _ (i + 1) h1).1]; exact h.up i h1
    · obtain h2 : i + 1 = l.length := by omega
      rw [h2, e.1, ← h2]; simp only [lastAt]; omega

set_option maxHeartbeats 4000000 in
theorem packets_any (ao : Option Addr) (len c : Nat) (zs : List Int) (n : Nat) (w : World) (hsl : Sl w ao len c 1 (zs.map (Value.int .i64))) (hwf : ∀ z ∈ zs, (Lit.int .i64 z).wf = true) (hn : n ≤ 300) :
    Calls Try.prog 16 #[.slice ao len c, .int .i64 n] w fun e w' => ∃ ps ao' m c', ps.length = m ∧ PK ps ∧ m ≤ n ∧ e = .returned (.slice ao' m c') ∧ Own w' w.heap.size 27 2 ao' m c' (pks ps) ∧ Below w.heap.size w w' := by
  refine calls_hide fun R hR => ?_
  have hzl : zs.length = len := by have := hsl.len; simpa using this
  have hcl := hsl.le
  have hcm := hsl.cap
  unfold maxLen at hcm
  have H := Lib.hid hsl
  have HW := Lib.hid hwf
  clear hsl hwf
  go_enter Try.func16, Try.ntmps16
  go_wp2_with fail
  go_loopw [5, 6, 7] (fun v t i wr => ∃ (k : Nat) (ps : List (Int × Int)) (ao' : Option Addr) (c' : Nat), k ≤ len ∧ k ≤ n ∧ i = .int .i64 k ∧ v = .slice ao' k c' ∧ t = .int .i64 (lastAt ps k) ∧ Hid (ps.length = k ∧ PK ps ∧ Own wr w.heap.size 27 2 ao' k c' (pks ps) ∧ Below w.heap.size w wr)) (fun _ _ i _ => len - (intOf i).toNat)
  case atStart => exact ⟨0, [], none, 0, by omega, by omega, rfl, rfl, rfl, Lib.hid ⟨rfl, PK.nil, Own.nil _ _ _ _, Below.refl _ _⟩⟩
  case round =>
    obtain ⟨k, ps, ao', c', hk, hkn, rfl, rfl, rfl, hH⟩ := hrel
    obtain ⟨hl, hpk, hO, hbr⟩ := hH.out
    have hsr := hbr.size
    have hla := hpk.last k (by omega)
    have hsn := fun d s => hpk.snoc d s
    rw [hl] at hsn
    have HSN := Lib.hid hsn
    have HL := Lib.hid hl
    have HPK := Lib.hid hpk
    have HO := Lib.hid hO
    have HBR := Lib.hid hbr
    clear hH hO hbr hl hpk hsn
    by_cases hlt : k < len ∧ k < n
    · obtain ⟨hlt1, hlt2⟩ := hlt
      obtain ⟨bb, oo, rfl, hbb, hcc⟩ := (H.out.below HBR.out).get (by omega)
      have hz0 := hcc k (.int .i64 (zs.getD k 0)) (by simp [hzl, hlt1])
      have hzb := bd_i64 (HW.out (zs.getD k 0) (by rw [List.getD_eq_getElem?_getD, List.getElem?_eq_getElem (by omega)]; simp))
      clear hcc
      generalize hz : zs.getD k 0 = z at hz0 hzb
      clear hz
      have hbb' : bb < wr.heap.size := by omega
      obtain ⟨hz1, hz2⟩ := hzb
      have hd1 : 0 ≤ z % 12 ∧ z % 12 < 12 := by omega
      have HD1 := Lib.hid hd1
      obtain ⟨hd1, hd2⟩ := hd1
      have ht : Hid (lastAt (ps ++ [(lastAt ps k + z % 12, 1 + (z.tdiv 12) % 300)]) (k + 1) = lastAt ps k + z % 12) := Lib.hid (by
        have := (at_append_eq ps (lastAt ps k + z % 12, 1 + (z.tdiv 12) % 300)).1
        rw [HL.out] at this; exact this)
      have hs1 : 0 ≤ (z.tdiv 12) % 300 ∧ (z.tdiv 12) % 300 < 300 := by omega
      have HP := Lib.hid (HSN.out (z % 12) ((z.tdiv 12) % 300) HD1.out hs1)
      have hps := Lib.hid (pks_append ps [(lastAt ps k + z % 12, 1 + (z.tdiv 12) % 300)])
      obtain ⟨hs1, hs2⟩ := hs1
      obtain ⟨hla1, hla2⟩ := hla
      go_wp2_with fail
      refine (picked_any z 12 _ (by omega) (by omega)).mono ?_
      rintro e w' ⟨rfl, rfl⟩
      go_wp2_with fail
      refine (picked_any (z.tdiv 12) 300 _ (by omega) (by omega)).mono ?_
      rintro e w' ⟨rfl, rfl⟩
      generalize (z.tdiv 12) % 300 = s at *
      generalize z % 12 = d at *
      generalize hT : lastAt ps k = t at *
      clear hT
      go_wp2_with (at_builtin; go_loud (refine wpList_append_sl rfl _ _ _ rfl _ _ _ w.heap.size elem_pk ao' k c' _ rfl (HO.out.alloc _) _ 1 1 (pks [(t + d, 1 + s)]) rfl (Sl.litB _ _ 1 2 (pks [(t + d, 1 + s)]) _ rfl rfl (by omega) (pks_one _)) (by omega) (by unfold maxLen; omega) (by simp; omega) ?_))
      intro ao2 c2 w2 hown2 hg2
      have hf : Hid (Own w2 w.heap.size 27 2 ao2 (k + 1) c2 (pks (ps ++ [(t + d, 1 + s)])) ∧ Below w.heap.size w w2) := Lib.hid ⟨by rw [hps.out]; exact hown2, hg2.below (HBR.out.alloc hsr _) (by simp; omega) (fun k hk => (HO.out.blk_lt k hk).1)⟩
      clear hown2 hg2
      go_wp2
      go_roundw
      case rel => exact ⟨k + 1, _, ao2, c2, by omega, by omega, by go_num, rfl, val_int ht.out.symm, Lib.hid ⟨by simp [HL.out], HP.out, hf.out⟩⟩
      case measure => simp [intOf]; omega
    · have h00 : ((k : Int) < (len : Int)) ∧ ¬ ((k : Int) < (n : Int)) ∨ ¬ ((k : Int) < (len : Int)) := by omega
      rcases h00 with ⟨h01, h02⟩ | h01
      all_goals
        go_wp2
        exact hR.out _ _ ⟨ps, ao', k, c', HL.out, HPK.out, hkn, rfl, HO.out, HBR.out⟩

set_option maxHeartbeats 4000000 in
theorem bucketed_any (r u : Int) (ao : Option Addr) (n c : Nat) (l : List (Int × Int)) (w : World) (h : Sl w ao n c 2 (pks l)) (hr : 0 ≤ r ∧ r ≤ 1000) (hu : 0 ≤ u ∧ u ≤ 100000) (hn : n ≤ 300) (hl : OK l) :
    Calls Try.prog 17 #[.int .i64 r, .int .i64 u, .slice ao n c] w fun e w' => ∃ ao' c', e = .returned (.tuple #[.slice ao' n c', .bool true]) ∧ Own w' w.heap.size 4 1 ao' n c' (bools (passes r u l n)) ∧ Below w.heap.size w w' := by
  refine calls_hide fun R hR => ?_
  have hcm := h.cap
  have hcl := h.le
  unfold maxLen at hcm
  have H := Lib.hid h
  clear h
  have hn' : (n : Int) ≤ 300 := by omega
  go_enter Try.func17, Try.ntmps17
  go_wp2_with (at_builtin; refine wpList_append_sl (by first | rfl | decide | (simp [Region.wanted, yielded]; done)) _ _ _ rfl _ _ _ w.heap.size elem_pk none 0 0 [] rfl (Own.nil _ _ _ _) ao n c _ rfl H.out (by omega) (by unfold maxLen; omega) (by first | exact Nat.le_refl _ | (simp; done) | omega | (simp; omega)) ?_)
  intro ao2 c2 w2 hown2 hg2
  have hb2 : Below w.heap.size w w2 := hg2.below (Below.refl _ _) (Nat.le_refl _) (fun k hk => by simp [blk] at hk)
  have hs2 := hb2.size
  have HO2 := Lib.hid hown2
  have HB2 := Lib.hid hb2
  clear hown2 hb2 hg2
  go_wp2_with fail
  refine (play_any r u ao2 n c2 l w2 HO2.out.sl hr hu hn hl).mono ?_
  rintro e w3 ⟨ao3, c3, rfl, ho3, hb3⟩
  have hs3 := hb3.size
  have HO3 := Lib.hid (ho3.mono (base' := w.heap.size) (by omega))
  have hc3 := HO3.out.sl.cap
  have hl3 := HO3.out.sl.le
  unfold maxLen at hc3
  have HB3 := Lib.hid (HB2.out.trans (hb3.mono (by omega)))
  have S3 := Lib.hid (Sl.litB w3 27 3 2 (pks [(0, 5), (0, 1), (1, 1)]) _ rfl rfl (by omega) (pks_one _))
  have OK3 : Hid (OK [((0 : Int), (5 : Int)), (0, 1), (1, 1)]) := Lib.hid ⟨fun i hi => by match i, hi with | 0, _ => decide | 1, _ => decide | 2, _ => decide, fun i hi => by match i, hi with | 0, _ => decide | 1, _ => decide | 2, _ => decide, fun i hi => by match i, hi with | 0, _ => decide | 1, _ => decide⟩
  clear ho3 hb3
  go_wp2_with fail
  refine (play_any 1 5 _ 3 _ _ _ S3.out (by omega) (by omega) (by omega) OK3.out).mono ?_
  rintro e w4 ⟨ao4, c4, rfl, ho4, hb4⟩
  have hs4 := hb4.size
  simp only [World.size_alloc] at hs4
  obtain ⟨g, rfl, hg1, hg2, hcc, _⟩ := ho4.get (by omega)
  have hle4 := ho4.sl.le
  have hcap4 := ho4.sl.cap
  unfold maxLen at hcap4
  have x0 := hcc 0 (.bool true) rfl
  have x1 := hcc 1 (.bool false) rfl
  have x2 := hcc 2 (.bool true) rfl
  have HF := Lib.hid ((HO3.out.alloc (.cells (pks [(0, 5), (0, 1), (1, 1)]).toArray 27)).below hb4)
  have HBF := Lib.hid ((HB3.out.alloc (by omega) (.cells (pks [(0, 5), (0, 1), (1, 1)]).toArray 27)).trans (hb4.mono (by simp; omega)))
  clear ho4 hb4 hcc hu hr
  go_wp2_with fail
  go_quiet (fail)
  go_wp2
  exact hR.out _ _ ⟨ao3, c3, rfl, HF.out.keep (fun _ _ => rfl), HBF.out.trans ⟨rfl, rfl, rfl, Nat.le_refl _, fun _ _ => rfl⟩⟩
end bucket
end Go.Proofs.Ytpfpjlhcmdpdkaa
