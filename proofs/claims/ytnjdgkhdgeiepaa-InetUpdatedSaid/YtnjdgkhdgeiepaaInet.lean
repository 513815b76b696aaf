/-
  CONTRACTS of packthreadkeep.Octets and of package inet. Conditions: as each theorem names them.
-/
import Derived.Test.YtnjdgkhdgeiepaaSl
import Derived.Test.YtnjdgkhdgeiepaaPicked
namespace Go.Proofs.Ytnjdgkhdgeiepaa
open Go.RowKit
set_option linter.unusedVariables false

theorem elem_u8 : Elem Try.prog 22 5 1 1 := .mk' Try.underlying22 (.int .u8 0) (by kernel_rfl) rfl (by decide)

def u8s (l : List Int) : List Value := l.map (Value.int .u8)

namespace inet
def ofold (n : Int) : Int := if n ≤ 0 then 0 else (n - 1) % 65535 + 1
theorem ofold_le (n : Int) (h0 : 0 ≤ n) (h : n ≤ 65535) : ofold n = n := by unfold ofold; split <;> omega
theorem ofold_step (n : Int) (h : 65535 < n) : ofold (n / 65536 + n % 65536) = ofold n := by
  unfold ofold; rw [if_neg (by omega), if_neg (by omega)]; omega

theorem fold_any (n : Int) (w : World) (h0 : 0 ≤ n) (h1 : n ≤ 4611686018427387904) :
    Calls Try.prog 25 #[.int .i64 n] w fun e w' => e = .returned (.int .i64 (ofold n)) ∧ w = w' := by
  refine calls_hide fun R hR => ?_
  go_enter Try.func25, Try.ntmps25
  go_wp2
  go_loop [0] (fun x => ∃ m : Int, 0 ≤ m ∧ m ≤ 4611686018427387904 ∧ Hid (ofold m = ofold n) ∧ x = .int .i64 m) (fun x => (intOf x).toNat)
  case atStart => exact ⟨n, h0, h1, Lib.hid rfl, rfl⟩
  case round =>
    obtain ⟨m, hm0, hm1, hm2, rfl⟩ := hrel
    by_cases hlt : 65535 < m
    · have hs := Lib.hid (ofold_step m hlt)
      go_wp2
      go_round
      case rel => exact ⟨_, by omega, by omega, Lib.hid (hs.out.trans hm2.out), rfl⟩
      case measure => simp [intOf]; omega
    · go_wp2
      exact hR.out _ _ ⟨ret_int (by rw [← hm2.out, ofold_le m hm0 (by omega)]), rfl⟩

/-- the sum of numbers of two bytes each, a first single byte at the lower place where 'odd' -/
def wsum : Bool → List Int → Int
  | _, [] => 0
  | false, a :: t => 256 * a + wsum true t
  | true, a :: t => a + wsum false t
theorem wsum_bd (l : List Int) (hl : ∀ b ∈ l, 0 ≤ b ∧ b < 256) : ∀ o, 0 ≤ wsum o l ∧ wsum o l ≤ 65280 * l.length := by
  induction l with
  | nil => intro o; cases o <;> simp [wsum]
  | cons a t ih =>
    have ha := hl a (by simp)
    have h := ih (fun b hb => hl b (by simp [hb]))
    intro o
    cases o
    · have := h true; simp only [wsum, List.length_cons]; omega
    · have := h false; simp only [wsum, List.length_cons]; omega
theorem wsum_append (l m : List Int) : ∀ o, wsum o (l ++ m) = wsum o l + wsum (if l.length % 2 = 1 then !o else o) m := by
  induction l with
  | nil => intro o; cases o <;> simp [wsum]
  | cons a t ih =>
    intro o
    have e : ∀ p : Bool, (if (t.length + 1) % 2 = 1 then !p else p) = (if t.length % 2 = 1 then !(!p) else !p) := by
      intro p
      by_cases h : t.length % 2 = 1
      · rw [if_pos h, if_neg (by omega)]; simp
      · rw [if_neg h, if_pos (by omega)]
    cases o
    · simp only [List.cons_append, wsum, List.length_cons, ih true, e false]; simp; omega
    · simp only [List.cons_append, wsum, List.length_cons, ih false, e true]; simp; omega
theorem take_get (l : List Int) (k : Nat) (hk : k < l.length) : l.take (k + 1) = l.take k ++ [l.getD k 0] := by
  rw [List.take_succ_eq_append_getElem hk]; simp [hk]
theorem wsum_take (l : List Int) (k : Nat) (hk : k < l.length) : wsum false (l.take (k + 1)) = wsum false (l.take k) + (if k % 2 = 0 then 256 * l.getD k 0 else l.getD k 0) := by
  rw [take_get l k hk, wsum_append, List.length_take, Nat.min_eq_left (by omega)]
  by_cases h : k % 2 = 0
  · rw [if_neg (by omega), if_pos h]; simp [wsum]
  · rw [if_pos (by omega), if_neg h]; simp [wsum]

def Bytes (l : List Int) : Prop := ∀ b ∈ l, 0 ≤ b ∧ b < 256
theorem Bytes.get {l : List Int} (h : Bytes l) (k : Nat) (hk : k < l.length) : 0 ≤ l.getD k 0 ∧ l.getD k 0 < 256 := by
  have : l.getD k 0 = l[k] := by simp [hk]
  rw [this]; exact h _ (List.getElem_mem hk)

theorem foldB_any (ao : Option Addr) (n c : Nat) (l : List Int) (w : World) (h : Sl w ao n c 1 (u8s l)) (hl : Bytes l) (hn : n ≤ 1000000) :
    Calls Try.prog 15 #[.slice ao n c] w fun e w' => e = .returned (.int .i64 (ofold (wsum false l))) ∧ w = w' := by
  refine calls_hide fun R hR => ?_
  have H := Lib.hid h
  have HL := Lib.hid hl
  have hlen : l.length = n := by have := h.len; simpa [u8s] using this
  have HLen := Lib.hid hlen
  clear h hl hlen
  go_enter Try.func15, Try.ntmps15
  go_wp2
  go_loop [3, 8] (fun s i => ∃ k : Nat, k ≤ n ∧ i = .int .i64 k ∧ s = .int .i64 (wsum false (l.take k))) (fun _ i => n - (intOf i).toNat)
  case atStart => exact ⟨0, Nat.zero_le _, rfl, rfl⟩
  case round =>
    obtain ⟨k, hk, rfl, rfl⟩ := hrel
    by_cases hlt : k < n
    · obtain ⟨b, o, rfl, hb, hc⟩ := H.out.get (by omega)
      have hcell := hc k (.int .u8 (l.getD k 0)) (by have := HLen.out; simp [u8s, this, hlt])
      clear hc
      obtain ⟨hx1, hx2⟩ := HL.out.get k (by rw [HLen.out]; exact hlt)
      have hs := Lib.hid (wsum_take l k (by rw [HLen.out]; exact hlt))
      obtain ⟨hw1, hw2⟩ := wsum_bd (l.take k) (fun b hb => HL.out b (List.mem_of_mem_take hb)) false
      have hw3 : (l.take k).length ≤ k := List.length_take_le _ _
      generalize l.getD k 0 = x at hcell hx1 hx2 hs
      generalize wsum false (l.take k) = s at hs hw1 hw2
      by_cases hp : k % 2 = 0
      · have hpi : ((k : Int) % 2 == 0) = true := by simp; omega
        go_wp2
        go_round
        case rel => exact ⟨k + 1, by omega, by go_num, val_int (by rw [hs.out, if_pos hp]; omega)⟩
        case measure => simp [intOf]; omega
      · have hpi : ((k : Int) % 2 == 0) = false := by simp; omega
        go_wp2
        go_round
        case rel => exact ⟨k + 1, by omega, by go_num, val_int (by rw [hs.out, if_neg hp])⟩
        case measure => simp [intOf]; omega
    · obtain rfl : k = n := by omega
      have hw := wsum_bd l HL.out false
      have hll := HLen.out
      rw [List.take_of_length_le (by omega)]
      generalize wsum false l = s at hw hR
      obtain ⟨hw1, hw2⟩ := hw
      clear hll
      go_wp2_with fail
      refine (fold_any s _ hw1 (by have := HLen.out; omega)).mono ?_
      rintro e w' ⟨rfl, rfl⟩
      go_wp2
      exact hR.out _ _ ⟨rfl, rfl⟩
end inet

theorem octets_any (ao : Option Addr) (n c : Nat) (l : List Int) (k : Nat) (w : World) (h : Sl w ao n c 1 (u8s l)) (hk : k ≤ 1000000) :
    Calls Try.prog 13 #[.slice ao n c, .int .i64 k] w fun e w' => ∃ ao' c', e = .returned (.slice ao' (min n k) c') ∧ Own w' w.heap.size 5 1 ao' (min n k) c' (u8s (l.take k)) ∧ Below w.heap.size w w' := by
  refine calls_hide fun R hR => ?_
  have hn := h.le
  have hm := h.cap
  unfold maxLen at hm
  by_cases hlt : k < n
  · have H := Lib.hid (h.take k (by omega))
    clear h
    have hmin : min n k = k := by omega
    rw [hmin] at hR
    clear hmin
    go_enter Try.func13, Try.ntmps13
    go_wp2_with (at_builtin; go_loud (refine wpList_append_sl (by first | rfl | decide | (simp [Region.wanted, yielded]; done)) _ _ _ rfl _ _ _ w.heap.size elem_u8 none 0 0 [] rfl (Own.nil _ _ _ _) ao k c _ rfl H.out (by omega) (by unfold maxLen; omega) (by first | exact Nat.le_refl _ | (simp; done) | omega | (simp; omega)) ?_))
    intro ao' c' w' h1 h2
    go_wp2
    refine hR.out _ _ ⟨ao', c', rfl, ?_, h2.below (Below.refl _ _) (Nat.le_refl _) (by simp [blk])⟩
    simpa [u8s] using h1
  · have H := Lib.hid h
    have hl : l.length = n := by have := h.len; simpa [u8s] using this
    have hmin : min n k = n := by omega
    rw [hmin, List.take_of_length_le (by omega)] at hR
    clear hmin h hl
    go_enter Try.func13, Try.ntmps13
    go_wp2_with (at_builtin; go_loud (refine wpList_append_sl (by first | rfl | decide | (simp [Region.wanted, yielded]; done)) _ _ _ rfl _ _ _ w.heap.size elem_u8 none 0 0 [] rfl (Own.nil _ _ _ _) ao n c _ rfl H.out (by omega) (by unfold maxLen; omega) (by first | exact Nat.le_refl _ | (simp; done) | omega | (simp; omega)) ?_))
    intro ao' c' w' h1 h2
    go_wp2
    refine hR.out _ _ ⟨ao', c', rfl, ?_, h2.below (Below.refl _ _) (Nat.le_refl _) (by simp [blk])⟩
    simpa [u8s] using h1

def i64s (l : List Int) : List Value := l.map (Value.int .i64)

namespace inet
theorem bad_ok (ao : Option Addr) (n c : Nat) (zs : List Int) (w : World) (hl : n ≤ 1000000) (hz : ∀ z ∈ zs, 0 ≤ z ∧ z ≤ 65535) (h : Sl w ao n c 1 (i64s zs)) :
    Calls Try.prog 29 #[.slice ao n c] w fun e w' => e = .returned (.bool false) ∧ w = w' := by
  refine calls_hide fun R hR => ?_
  have hlen : zs.length = n := by have := h.len; simpa [i64s] using this
  have H := Lib.hid h
  have HZ := Lib.hid hz
  have HLen := Lib.hid hlen
  clear h hz hlen
  go_enter Try.func29, Try.ntmps29
  go_wp2
  go_loop [4, 7] (fun _ i => ∃ k : Nat, k ≤ n ∧ i = .int .i64 k) (fun _ i => n - (intOf i).toNat)
  case atStart => exact ⟨0, Nat.zero_le _, rfl⟩
  case round =>
    obtain ⟨k, hk, rfl⟩ := hrel
    by_cases hlt : k < n
    · obtain ⟨b, o, rfl, hb, hc⟩ := H.out.get (by omega)
      have hkl : k < zs.length := by rw [HLen.out]; exact hlt
      have hcell := hc k (.int .i64 (zs.getD k 0)) (by simp [i64s, hkl])
      obtain ⟨hz1, hz2⟩ := HZ.out (zs.getD k 0) (by simp [hkl])
      clear hc hkl
      generalize zs.getD k 0 = x at hcell hz1 hz2
      go_wp2
      go_round
      case rel => exact ⟨k + 1, by omega, by go_num⟩
      case measure => simp [intOf]; omega
    · go_wp2
      exact hR.out _ _ ⟨rfl, rfl⟩

theorem ints_one (l : List Int) : ∀ u ∈ i64s l, u.oneCell' = true := ints_oneCell .i64 l
theorem u8s_one (l : List Int) : ∀ u ∈ u8s l, u.oneCell' = true := ints_oneCell .u8 l

theorem bad_two (w : World) (s t : Int) (h : 0 ≤ s ∧ s ≤ 65535) (h' : 0 ≤ t ∧ t ≤ 65535) :
    Calls Try.prog 29 #[.slice (some ⟨w.heap.size, 0, none⟩) 2 2] (w.alloc (.cells #[.int .i64 s, .int .i64 t] 3)) fun e w' => e = .returned (.bool false) ∧ w.alloc (.cells #[.int .i64 s, .int .i64 t] 3) = w' :=
  bad_ok _ 2 2 [s, t] _ (by omega) (by simp [h, h']) (Sl.lit w 3 2 1 (i64s [s, t]) rfl (by unfold maxLen; omega) (ints_one _))
theorem bad_three (w : World) (r s t : Int) (h0 : 0 ≤ r ∧ r ≤ 65535) (h : 0 ≤ s ∧ s ≤ 65535) (h' : 0 ≤ t ∧ t ≤ 65535) :
    Calls Try.prog 29 #[.slice (some ⟨w.heap.size, 0, none⟩) 3 3] (w.alloc (.cells #[.int .i64 r, .int .i64 s, .int .i64 t] 3)) fun e w' => e = .returned (.bool false) ∧ w.alloc (.cells #[.int .i64 r, .int .i64 s, .int .i64 t] 3) = w' :=
  bad_ok _ 3 3 [r, s, t] _ (by omega) (by simp [h0, h, h']) (Sl.lit w 3 3 1 (i64s [r, s, t]) rfl (by unfold maxLen; omega) (ints_one _))

theorem ofold_bd (n : Int) (h : 0 ≤ n) : 0 ≤ ofold n ∧ ofold n ≤ 65535 := by unfold ofold; split <;> omega

theorem sum_any (ao : Option Addr) (n c : Nat) (l : List Int) (w : World) (h : Sl w ao n c 1 (u8s l)) (hl : Bytes l) (hn : n ≤ 1000000) :
    Calls Try.prog 17 #[.slice ao n c] w fun e w' => e = .returned (.int .i64 (65535 - ofold (wsum false l))) ∧ w = w' := by
  refine calls_hide fun R hR => ?_
  obtain ⟨h1, h2⟩ := ofold_bd _ (wsum_bd l hl false).1
  go_enter Try.func17, Try.ntmps17
  go_wp2_with fail
  refine (foldB_any _ _ _ l _ h hl hn).mono ?_
  rintro e w' ⟨rfl, rfl⟩
  generalize ofold (wsum false l) = s at h1 h2 hR
  go_wp2
  exact hR.out _ _ ⟨rfl, rfl⟩

theorem sure_any (w : World) : Calls Try.prog 16 #[] w fun e w' => e = .returned (.bool true) ∧ Below w.heap.size w w' := by
  refine calls_hide fun R hR => ?_
  go_enter Try.func16, Try.ntmps16
  go_wp2_with fail
  refine (foldB_any _ _ _ [1, 2, 3] _ (Sl.lit w 5 3 1 (u8s [1, 2, 3]) rfl (by unfold maxLen; omega) (u8s_one _)) (by simp [Bytes]) (by omega)).mono ?_
  rintro e w' ⟨rfl, rfl⟩
  have e1 : ofold (wsum false [1, 2, 3]) = 1026 := by decide
  rw [e1]
  go_wp2
  exact hR.out _ _ ⟨rfl, (Below.refl _ _).alloc (Nat.le_refl _) _⟩

theorem update_any (s a b : Int) (w : World) (h0 : 0 ≤ s ∧ s ≤ 65535) (h1 : 0 ≤ a ∧ a ≤ 65535) (h2 : 0 ≤ b ∧ b ≤ 65535) :
    Calls Try.prog 23 #[.int .i64 s, .int .i64 a, .int .i64 b] w fun e w' => e = .returned (.tuple #[.int .i64 (65535 - ofold (65535 - s + 65535 - a + b)), .int .i64 0]) ∧ Below w.heap.size w w' := by
  refine calls_hide fun R hR => ?_
  go_enter Try.func23, Try.ntmps23
  go_wp2_with fail
  refine (bad_three w s a b h0 h1 h2).mono ?_
  rintro e w' ⟨rfl, rfl⟩
  obtain ⟨h01, h02⟩ := h0
  obtain ⟨h11, h12⟩ := h1
  obtain ⟨h21, h22⟩ := h2
  obtain ⟨h3, h4⟩ := ofold_bd (65535 - s + 65535 - a + b) (by omega)
  go_wp2_with fail
  refine (fold_any _ _ (by omega) (by omega)).mono ?_
  rintro e w' ⟨rfl, rfl⟩
  generalize ofold (65535 - s + 65535 - a + b) = r at h3 h4 hR
  go_wp2
  exact hR.out _ _ ⟨rfl, (Below.refl _ _).alloc (Nat.le_refl _) _⟩

theorem swap16 (n : Int) (h0 : 0 ≤ n) (h1 : n ≤ 65535) : bits .or .u16 (n / 256) (IntKind.u16.wrap (n * 256)) = n % 256 * 256 + n / 256 := by
  obtain ⟨m, rfl⟩ := Int.eq_ofNat_of_zero_le h0
  have e1 : IntKind.u16.wrap ((m : Int) * 256) = ((m % 256 * 256 : Nat) : Int) := by rw [IntKind.wrap_u16]; omega
  rw [e1, show ((m : Int) / 256) = ((m / 256 : Nat) : Int) by omega, u16_or_nat _ _ (by omega) (by omega), Nat.or_comm]
  have e2 : m % 256 * 256 ||| m / 256 = m % 256 * 256 + m / 256 := by
    have h := Nat.shiftLeft_add_eq_or_of_lt (b := m / 256) (i := 8) (by omega) (m % 256)
    rw [Nat.shiftLeft_eq] at h
    exact h.symm
  rw [e2]; omega

theorem rev_any (n : Int) (w : World) (h0 : 0 ≤ n ∧ n ≤ 65535) :
    Calls Try.prog 30 #[.int .u16 n] w fun e w' => e = .returned (.int .u16 (n % 256 * 256 + n / 256)) ∧ w = w' := by
  refine calls_hide fun R hR => ?_
  obtain ⟨h1, h2⟩ := h0
  go_enter Try.func30, Try.ntmps30
  go_wp2
  exact hR.out _ _ ⟨ret_int (swap16 n h1 h2), rfl⟩

theorem join_any (a b : Int) (odd : Bool) (w : World) (h0 : 0 ≤ a ∧ a ≤ 65535) (h1 : 0 ≤ b ∧ b ≤ 65535) :
    Calls Try.prog 24 #[.int .i64 a, .int .i64 b, .bool odd] w fun e w' => e = .returned (.tuple #[.int .i64 (ofold (a + (if odd then b % 256 * 256 + b / 256 else b))), .int .i64 0]) ∧ Below w.heap.size w w' := by
  refine calls_hide fun R hR => ?_
  cases odd
  · simp only [Bool.false_eq_true, if_false] at hR
    go_enter Try.func24, Try.ntmps24
    go_wp2_with fail
    refine (bad_two w a b h0 h1).mono ?_
    rintro e w' ⟨rfl, rfl⟩
    obtain ⟨h01, h02⟩ := h0
    obtain ⟨h11, h12⟩ := h1
    go_wp2_with fail
    refine (fold_any _ _ (by omega) (by omega)).mono ?_
    rintro e w' ⟨rfl, rfl⟩
    go_wp2
    exact hR.out _ _ ⟨rfl, (Below.refl _ _).alloc (Nat.le_refl _) _⟩
  · simp only [if_true] at hR
    go_enter Try.func24, Try.ntmps24
    go_wp2_with fail
    refine (bad_two w a b h0 h1).mono ?_
    rintro e w' ⟨rfl, rfl⟩
    obtain ⟨h01, h02⟩ := h0
    obtain ⟨h11, h12⟩ := h1
    go_wp2_with fail
    refine (rev_any b _ ⟨h11, h12⟩).mono ?_
    rintro e w' ⟨rfl, rfl⟩
    have hr : 0 ≤ b % 256 * 256 + b / 256 ∧ b % 256 * 256 + b / 256 ≤ 65535 := by omega
    generalize b % 256 * 256 + b / 256 = r at hr hR
    obtain ⟨hr1, hr2⟩ := hr
    go_wp2_with fail
    refine (fold_any _ _ (by omega) (by omega)).mono ?_
    rintro e w' ⟨rfl, rfl⟩
    go_wp2
    exact hR.out _ _ ⟨rfl, (Below.refl _ _).alloc (Nat.le_refl _) _⟩
end inet
end Go.Proofs.Ytnjdgkhdgeiepaa
