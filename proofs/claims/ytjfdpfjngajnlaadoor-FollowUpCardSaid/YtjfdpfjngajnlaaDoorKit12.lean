/-
  THE KIT OF MY OWN, TWELFTH PART: pieces of rows that stay one's own; conversions, shifts, closures; many resources as one; rows made. Over any program; no condition.
-/
import Derived.Test.YtjfdpfjngajnlaaDoorKit11
namespace Go.Proofs.YtjfdpfjngajnlaaDoor
open Go.RowKit Go.Sort
set_option linter.unusedVariables false
set_option linter.unusedSimpArgs false

theorem rowIn.piece {h : Hp} {e : TypeId} {size : Nat} {ao : Option Addr} {n c : Nat} {xs : List Value} (H : rowIn h e size ao n c xs) (l r : Nat) (hlr : l ≤ r) (hr : r ≤ n) :
    rowIn h e size (if c = l then ao else ao.map (·.add (l * size))) (r - l) (c - l) ((xs.drop (l * size)).take ((r - l) * size)) := by
  obtain ⟨h1, h2, h3⟩ := H
  have e1 : (r - l) * size = r * size - l * size := Nat.sub_mul ..
  have e2 : r * size ≤ n * size := Nat.mul_le_mul_right _ hr
  have e3 : l * size ≤ r * size := Nat.mul_le_mul_right _ hlr
  refine ⟨by rw [List.length_take, List.length_drop, h1]; omega, fun u hu => h2 u (List.mem_of_mem_drop (List.mem_of_mem_take hu)), ?_⟩
  rcases h3 with ⟨rfl, rfl, rfl⟩ | ⟨g, q, cur, rfl, hg, hn, hm, hs, ht⟩
  · refine .inl ⟨?_, by omega, by omega⟩
    split <;> simp
  · have e4 : (c - l) * size = c * size - l * size := Nat.sub_mul ..
    have e5 : l * size ≤ c * size := Nat.mul_le_mul_right _ (by omega)
    refine .inr ?_
    by_cases hcl : c = l
    · rw [if_pos hcl]
      refine ⟨g, q, cur, rfl, hg, by omega, by omega, by omega, ?_⟩
      rw [e1, show r * size - l * size = 0 by have : r = l := by omega
                                              rw [this]; omega]
      simp
    · rw [if_neg hcl]
      refine ⟨g, q + l * size, cur, by simp only [Option.map_some, Addr.add_lit], hg, by omega, by omega, by omega, ?_⟩
      rw [← ht, List.drop_take, List.take_take, List.drop_drop, Nat.min_eq_left (by omega)]

section
variable {P : Program} {ops : Array Oper} {Q : Exit → Act → World → Prop} {K : Act → Prop} {n : Nat} {ds : List Deferred} {w0 : World} {rest : List Oper} {fr : Slots} {rs rs' : List Res} {ty t tx t' : TypeId} {x y : Operand} {pos : String} {after : Array Edge}

theorem Holds.conv {w : World} {r r' : Res} (H : Holds w0 w (r :: rs)) (h : ∀ f o, r.sat f o → r'.sat f o) : Holds w0 w (r' :: rs) :=
  H.step rfl rfl rfl (Nat.le_refl _) fun f o hr _ ho => ⟨o, h f o hr, ho, fun _ _ hn => ⟨hn, rfl⟩⟩
theorem G.conv (h : ∀ w, Holds w0 w rs → Holds w0 w rs') (k : @G P ops Q n ds w0 rest fr rs') : @G P ops Q n ds w0 rest fr rs := fun a w hf hw => k a w hf (h w hw)
theorem GC.conv {c : Code} (h : ∀ w, Holds w0 w rs → Holds w0 w rs') (k : @GC P c Q n ds w0 fr rs') : @GC P c Q n ds w0 fr rs := fun a w hf hw => k a w hf (h w hw)
theorem GE.conv {e : Exit} (h : ∀ w, Holds w0 w rs → Holds w0 w rs') (k : @GE Q e n ds w0 fr rs') : @GE Q e n ds w0 fr rs := fun a w hf hw => k a w hf (h w hw)

theorem ev_int {o : Option Value} {k : IntKind} {a b : Int} (h : o = some (.int k a)) (e : a = b) : o = some (.int k b) := by rw [h, e]
theorem G.subV {d e e' size bytes m c l r : Nat} {zs xs xs' : List Value} {ao : Option Addr} {lo hi : Option Operand} {f : Option Addr → Nat → Nat → List Value → List Res} [hU : Und P t (.slice e)] [hI : Inf P e size bytes zs] (hx : ev fr x = some (.slice ao m c)) [hS : VecSet rs ao m c e' size xs f]
    (hlo : (lo = none ∧ l = 0) ∨ ∃ z k, lo = some z ∧ ev fr z = some (.int k (l : Int))) (hhi : (hi = none ∧ r = m) ∨ ∃ z k, hi = some z ∧ ev fr z = some (.int k (r : Int))) (hlr : l ≤ r ∧ r ≤ m) (hd : Nat.blt d n = true) (hxs : (xs.drop (l * size)).take ((r - l) * size) = xs')
    (k : ∀ ao' rs', rs' = f ao' (r - l) (c - l) xs' → @G P ops Q n ds w0 rest ((d, .slice ao' (r - l) (c - l)) :: fr) rs') : @G P ops Q n ds w0 (⟨some d, .slice t x lo hi none, ty, pos, after, none⟩ :: rest) fr rs := by
  subst hxs
  refine G.act hd fun a w pos after hf hw => ?_
  have hu := hS.upd (if c = l then ao else ao.map (·.add (l * size))) (r - l) (c - l) ((xs.drop (l * size)).take ((r - l) * size))
  have hc : m ≤ c := by
    obtain ⟨l', h1, h2⟩ := hu.split
    exact (rowIn.sl ((hw.perm h1).at (List.mem_cons_self ..))).le
  refine ⟨_, w, sub_run hU hI hf.toFrE hx hlo hhi hlr.1 (by omega), _, ?_, k _ _ rfl⟩
  exact hw.upd hu fun l' h => h.conv fun f o hs => rowIn.piece hs l r hlr.1 hlr.2

theorem Ex.conv64 {src dst : TypeId} {k kk : IntKind} {a : Int} [hU : Und P src (.int kk)] [hV : Und P dst (.int .i64)] (hx : ev fr x = some (.int k a)) (h : -9223372036854775808 ≤ a ∧ a ≤ 9223372036854775807) : Ex P n w0 rs fr (.convert src dst x) ty (.int .i64 a) := by
  have := Ex.conv (P := P) (n := n) (w0 := w0) (rs := rs) (ty := ty) (src := src) (dst := dst) hx
  rwa [i64_in a h] at this
theorem Ex.conv64b {src dst : TypeId} {k kk : IntKind} {a : UInt8} [hU : Und P src (.int kk)] [hV : Und P dst (.int .i64)] (hx : ev fr x = some (.int k (a.toNat : Int))) : Ex P n w0 rs fr (.convert src dst x) ty (.int .i64 (a.toNat : Int)) :=
  Ex.conv64 hx (by have := UInt8.toNat_lt a; omega)
theorem Ex.conv8 {src dst : TypeId} {k kk : IntKind} {a : Int} [hU : Und P src (.int kk)] [hV : Und P dst (.int .u8)] (hx : ev fr x = some (.int k a)) : Ex P n w0 rs fr (.convert src dst x) ty (.int .u8 (a % 256)) := by
  have := Ex.conv (P := P) (n := n) (w0 := w0) (rs := rs) (ty := ty) (src := src) (dst := dst) hx
  rwa [IntKind.wrap_u8] at this
theorem Ex.conv16 {src dst : TypeId} {k kk : IntKind} {a : Int} [hU : Und P src (.int kk)] [hV : Und P dst (.int .u16)] (hx : ev fr x = some (.int k a)) : Ex P n w0 rs fr (.convert src dst x) ty (.int .u16 (a % 65536)) := by
  have := Ex.conv (P := P) (n := n) (w0 := w0) (rs := rs) (ty := ty) (src := src) (dst := dst) hx
  rwa [IntKind.wrap_u16] at this
theorem fdiv_pos (a b : Int) (h : 0 ≤ b) : a.fdiv b = a / b := Int.fdiv_eq_ediv_of_nonneg _ h
theorem Ex.shr8 {a : Int} {K : IntKind} (hx : ev fr x = some (.int .i64 a)) (hy : ev fr y = some (.int K 8)) : Ex P n w0 rs fr (.binOp .shr t x y t') ty (.int .i64 (a / 256)) :=
  fun _ w _ _ _ _ hf _ => by simp [execOp, hf.ev hx, hf.ev hy, binOp, eqGuard, Op.shift, IntKind.bits, fdiv_pos]
theorem Ex.shr16 {a : Int} {K : IntKind} (hx : ev fr x = some (.int .i64 a)) (hy : ev fr y = some (.int K 16)) : Ex P n w0 rs fr (.binOp .shr t x y t') ty (.int .i64 (a / 65536)) :=
  fun _ w _ _ _ _ hf _ => by simp [execOp, hf.ev hx, hf.ev hy, binOp, eqGuard, Op.shift, IntKind.bits, fdiv_pos]
theorem Ex.shr24 {a : Int} {K : IntKind} (hx : ev fr x = some (.int .i64 a)) (hy : ev fr y = some (.int K 24)) : Ex P n w0 rs fr (.binOp .shr t x y t') ty (.int .i64 (a / 16777216)) :=
  fun _ w _ _ _ _ hf _ => by simp [execOp, hf.ev hx, hf.ev hy, binOp, eqGuard, Op.shift, IntKind.bits, fdiv_pos]
theorem Ex.shrN {a b : Int} {K : IntKind} (hx : ev fr x = some (.int .i64 a)) (hy : ev fr y = some (.int K b)) (h : 0 ≤ b ∧ b ≤ 63) : Ex P n w0 rs fr (.binOp .shr t x y t') ty (.int .i64 (a / 2 ^ b.toNat)) :=
  fun _ w _ _ _ _ hf _ => by
    have h1 : ¬ b < 0 := by omega
    have h2 : Min.min b.toNat 64 = b.toNat := by omega
    have h3 : (0 : Int) ≤ 2 ^ b.toNat := Int.le_of_lt (Int.pow_pos (by decide))
    simp [execOp, hf.ev hx, hf.ev hy, binOp, eqGuard, Op.shift, IntKind.bits, h1, h2, fdiv_pos _ _ h3]
theorem Ex.shl8 {a : Int} {K : IntKind} (hx : ev fr x = some (.int .i64 a)) (hy : ev fr y = some (.int K 8)) (h : -36028797018963968 ≤ a ∧ a ≤ 36028797018963967) : Ex P n w0 rs fr (.binOp .shl t x y t') ty (.int .i64 (a * 256)) :=
  fun _ w _ _ _ _ hf _ => by
    have e : IntKind.i64.wrap (a * 256) = a * 256 := i64_in _ (by omega)
    simp [execOp, hf.ev hx, hf.ev hy, binOp, eqGuard, Op.shift, IntKind.bits, e]
theorem Ex.shl8b {a : UInt8} {K : IntKind} (hx : ev fr x = some (.int .i64 (a.toNat : Int))) (hy : ev fr y = some (.int K 8)) : Ex P n w0 rs fr (.binOp .shl t x y t') ty (.int .i64 ((a.toNat : Int) * 256)) :=
  Ex.shl8 hx hy (by have := UInt8.toNat_lt a; omega)
theorem Ex.orB {a b : Int} (hx : ev fr x = some (.int .i64 (a * 256))) (hy : ev fr y = some (.int .i64 b)) (h : 0 ≤ a ∧ a < 36028797018963968 ∧ 0 ≤ b ∧ b < 256) : Ex P n w0 rs fr (.binOp .or t x y t') ty (.int .i64 (a * 256 + b)) := by
  have := Ex.or (P := P) (n := n) (w0 := w0) (rs := rs) (ty := ty) (t := t) (t' := t') hx hy
  rwa [bits_join .i64 63 (by decide) (fun n h0 h1 => i64_in n (by omega)) 8 (a * 256) b (by omega) (by omega) (by omega) (by omega) (by omega) (by omega)] at this
theorem Ex.orBb {a : Int} {b : UInt8} (hx : ev fr x = some (.int .i64 (a * 256))) (hy : ev fr y = some (.int .i64 (b.toNat : Int))) (h : 0 ≤ a ∧ a < 36028797018963968) : Ex P n w0 rs fr (.binOp .or t x y t') ty (.int .i64 (a * 256 + (b.toNat : Int))) :=
  Ex.orB hx hy (by have := UInt8.toNat_lt b; omega)
theorem Ex.orBbb {a b : UInt8} (hx : ev fr x = some (.int .i64 ((a.toNat : Int) * 256))) (hy : ev fr y = some (.int .i64 (b.toNat : Int))) : Ex P n w0 rs fr (.binOp .or t x y t') ty (.int .i64 ((a.toNat : Int) * 256 + (b.toNat : Int))) :=
  Ex.orB hx hy (by have := UInt8.toNat_lt b; have := UInt8.toNat_lt a; omega)
theorem Ex.and16 {a : Int} (hx : ev fr x = some (.int .i64 a)) (hy : ev fr y = some (.int .i64 65535)) (h : 0 ≤ a ∧ a ≤ 9223372036854775807) : Ex P n w0 rs fr (.binOp .and t x y t') ty (.int .i64 (a % 65536)) := by
  have := Ex.and (P := P) (n := n) (w0 := w0) (rs := rs) (ty := ty) (t := t) (t' := t') hx hy
  rwa [show (65535 : Int) = 2 ^ 16 - 1 from rfl, bits_mask .i64 63 (by decide) (fun n h0 h1 => i64_in n (by omega)) 16 (by decide) a (by omega) (by omega)] at this
theorem Ex.eqBy {a b : UInt8} {k : IntKind} (hx : ev fr x = some (.int k (a.toNat : Int))) (hy : ev fr y = some (.int k (b.toNat : Int))) : Ex P n w0 rs fr (.binOp .eql t x y t') ty (.bool (decide (a = b))) := by
  have := Ex.eqI (P := P) (n := n) (w0 := w0) (rs := rs) (ty := ty) (t := t) (t' := t') hx hy
  rwa [show decide ((a.toNat : Int) = (b.toNat : Int)) = decide (a = b) from decide_eq_decide.2 ⟨fun h => UInt8.toNat_inj.1 (by omega), fun h => by rw [h]⟩] at this
theorem Ex.neBy {a b : UInt8} {k : IntKind} (hx : ev fr x = some (.int k (a.toNat : Int))) (hy : ev fr y = some (.int k (b.toNat : Int))) : Ex P n w0 rs fr (.binOp .neq t x y t') ty (.bool (decide (¬ a = b))) := by
  have := Ex.neI (P := P) (n := n) (w0 := w0) (rs := rs) (ty := ty) (t := t) (t' := t') hx hy
  rwa [show decide (¬ (a.toNat : Int) = (b.toNat : Int)) = decide (¬ a = b) from decide_eq_decide.2 ⟨fun h e => h (by rw [e]), fun h e => h (UInt8.toNat_inj.1 (by omega))⟩] at this
/-- a closure -/
theorem Ex.mkFunc {fn : Fn} {xs : List Operand} {vs : List Value} (hx : evs fr xs = some vs) : Ex P n w0 rs fr (.makeFunc fn #[] xs.toArray) ty (.func fn #[] vs.toArray) :=
  fun a w _ _ _ _ hf _ => by
    have := hf.evs hx
    simp [execOp, Instr.makeFunc, ← this]

theorem erase_perm {α : Type} : ∀ (l : List α) (i : Nat) (h : i < l.length), (l[i] :: l.eraseIdx i).Perm l
  | a :: t, 0, _ => .refl _
  | a :: t, i + 1, h => by
    have h' : i < t.length := by simpa using h
    exact (List.Perm.swap a (t[i]'h') _).trans ((erase_perm t i h').cons a)
theorem set_perm {α : Type} : ∀ (l : List α) (i : Nat) (h : i < l.length) (r : α), (l.set i r).Perm (r :: l.eraseIdx i)
  | a :: t, 0, _, r => .refl _
  | a :: t, i + 1, h, r => ((set_perm t i (by simpa using h) r).cons a).trans (List.Perm.swap r a _)
/-- many resources as one -/
def Star (l : List Res) : Own2 where
  sat f o := ∃ m : List (Res × Hp), m.map Prod.fst = l ∧ (∀ x ∈ m, x.1.sat f x.2 ∧ x.2.le o) ∧ m.Pairwise (fun (x y : Res × Hp) => x.2.dj y.2)
  mono := by
    rintro f f' o o' hf ho ⟨m, h1, h2, h3⟩
    exact ⟨m, h1, fun x hx => ⟨Res.mono hf (.refl _) (h2 x hx).1, (h2 x hx).2.trans ho⟩, h3⟩
theorem Holds.starNil {w : World} (H : Holds w0 w rs) : Holds w0 w (.own (Star []) :: rs) :=
  H.add rfl rfl rfl (Nat.le_refl _) (fun _ _ => rfl) Hp.nil (fun k o e => by cases e) (fun _ _ => rfl) fun f _ => ⟨[], rfl, by simp, .nil⟩
theorem Holds.starOut {w : World} {r : Res} {l : List Res} (H : Holds w0 w (.own (Star (r :: l)) :: rs)) : Holds w0 w (r :: .own (Star l) :: rs) := by
  refine H.part fun f o h => ?_
  obtain ⟨m, h1, h2, h3⟩ := h
  match m, h1 with
  | x :: m, h1 =>
    simp only [List.map_cons, List.cons.injEq] at h1
    obtain ⟨rfl, rfl⟩ := h1
    obtain ⟨p1, p2⟩ := List.pairwise_cons.1 h3
    obtain ⟨q1, q2⟩ := h2 x (List.mem_cons_self ..)
    refine ⟨x.2, fun k => if (x.2 k).isNone then o k else none, q1, ⟨m, rfl, fun y hy => ⟨(h2 y (List.mem_cons_of_mem _ hy)).1, fun k v e => ?_⟩, p2⟩, fun k => ?_, q2, fun k v e => ?_⟩
    · have := (h2 y (List.mem_cons_of_mem _ hy)).2 k v e
      rcases p1 y hy k with hn | hn
      · simp [hn, this]
      · rw [hn] at e; cases e
    · cases e : x.2 k with
      | none => exact .inl rfl
      | some v => right; simp [e]
    · simp only at e
      split at e
      · exact e
      · cases e
theorem Holds.starIn {w : World} {r : Res} {l : List Res} (H : Holds w0 w (r :: .own (Star l) :: rs)) : Holds w0 w (.own (Star (r :: l)) :: rs) := by
  refine H.join fun f a b ha hb hd => ?_
  obtain ⟨m, h1, h2, h3⟩ := hb
  refine ⟨(r, a) :: m, by simp [h1], fun x hx => ?_, List.pairwise_cons.2 ⟨fun y hy => (hd.symm.left (h2 y hy).2).symm, h3⟩⟩
  rcases List.mem_cons.1 hx with rfl | hx
  · exact ⟨ha, Hp.le_or_left _ _⟩
  · exact ⟨(h2 x hx).1, (h2 x hx).2.trans (Hp.le_or_right hd)⟩
theorem Holds.starPerm {w : World} {l l' : List Res} (h : l.Perm l') (H : Holds w0 w (.own (Star l) :: rs)) : Holds w0 w (.own (Star l') :: rs) :=
  H.conv fun f o ⟨m, h1, h2, h3⟩ => by
    obtain ⟨m', p1, p2⟩ := perm_lift (l := m) h h1
    exact ⟨m', p2, fun x hx => h2 x (p1.mem_iff.1 hx), (p1.pairwise_iff (fun h => h.symm)).2 h3⟩
theorem Holds.starAt {w : World} {l : List Res} {i : Nat} (hi : i < l.length) (H : Holds w0 w (.own (Star l) :: rs)) : Holds w0 w (l[i] :: .own (Star (l.eraseIdx i)) :: rs) :=
  (H.starPerm (erase_perm l i hi).symm).starOut
theorem Holds.starBack {w : World} {l : List Res} {i : Nat} {r : Res} (hi : i < l.length) (H : Holds w0 w (r :: .own (Star (l.eraseIdx i)) :: rs)) : Holds w0 w (.own (Star (l.set i r)) :: rs) :=
  H.starIn.starPerm (set_perm l i hi r).symm
end
end Go.Proofs.YtjfdpfjngajnlaaDoor
