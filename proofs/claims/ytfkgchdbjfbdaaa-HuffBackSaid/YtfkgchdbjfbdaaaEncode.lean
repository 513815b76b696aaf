/-
  CONTRACT of huff.Encode, by the kit.
-/
import Derived.Test.YtfkgchdbjfbdaaaCodes
import Derived.Test.YtfkgchdbjfbdaaaBitP
import Derived.Test.YtfkgchdbjfbdaaaHuffTwice
namespace Go.Proofs.Ytfkgchdbjfbdaaa
open Go.RowKit
set_option linter.unusedVariables false
set_option linter.unusedSimpArgs false
section
variable {P : Program} {n : Nat} {w0 : World} {rs : List Res} {fr : Slots} {t t' ty : TypeId} {x y : Operand}
theorem Ex.andBit {a : Int} (hx : ev fr x = some (.int .i64 a)) (hy : ev fr y = some (.int .i64 1)) (h : 0 ≤ a ∧ a ≤ 9223372036854775807) : Ex P n w0 rs fr (.binOp .and t x y t') ty (.int .i64 (a % 2)) := by
  have := Ex.and (P := P) (n := n) (w0 := w0) (rs := rs) (ty := ty) (t := t) (t' := t') hx hy
  rwa [show (1 : Int) = 2 ^ 1 - 1 from rfl, bits_mask .i64 63 (by decide) (fun n h0 h1 => i64_in n (by omega)) 1 (by decide) a (by omega) (by omega), show (2 : Int) ^ 1 = 2 from rfl] at this
theorem u8_in' (a : Int) (h0 : 0 ≤ a) (h1 : a < 2 ^ 8) : IntKind.u8.wrap a = a := by rw [IntKind.wrap_u8]; omega
theorem Ex.shlU8 {v d : Nat} {KK : IntKind} (hx : ev fr x = some (.int .u8 (v : Int))) (hy : ev fr y = some (.int KK (d : Int))) (h : v < 2 ∧ d ≤ 7) : Ex P n w0 rs fr (.binOp .shl t x y t') ty (.int .u8 ((v * 2 ^ d : Nat) : Int)) :=
  fun _ w _ _ _ _ hf _ => by
    have hp : 2 ^ d ≤ 2 ^ 7 := Nat.pow_le_pow_right (by decide) h.2
    have hb : v * 2 ^ d ≤ 1 * 2 ^ 7 := Nat.mul_le_mul (by omega) hp
    have e : IntKind.u8.wrap ((v * 2 ^ d : Nat) : Int) = ((v * 2 ^ d : Nat) : Int) := u8_in' _ (Int.natCast_nonneg _) (by omega)
    have h2 : Min.min d 8 = d := by omega
    simp [execOp, hf.ev hx, hf.ev hy, binOp, eqGuard, Op.shift, IntKind.bits, h2]
    rw [Int.natCast_mul, Int.natCast_pow] at e
    first | exact e | (simpa using e)
theorem Ex.shrU8 {b : UInt8} {d : Nat} {KK : IntKind} (hx : ev fr x = some (.int .u8 (b.toNat : Int))) (hy : ev fr y = some (.int KK (d : Int))) (h : d ≤ 7) : Ex P n w0 rs fr (.binOp .shr t x y t') ty (.int .u8 ((b.toNat / 2 ^ d : Nat) : Int)) :=
  fun _ w _ _ _ _ hf _ => by
    have h2 : Min.min d 8 = d := by omega
    have h3 : (0 : Int) ≤ 2 ^ d := Int.le_of_lt (Int.pow_pos (by decide))
    simp [execOp, hf.ev hx, hf.ev hy, binOp, eqGuard, Op.shift, IntKind.bits, h2, fdiv_pos _ _ h3]
theorem Ex.orPut {b : UInt8} {v d : Nat} (w : UInt8) (hx : ev fr x = some (.int .u8 (b.toNat : Int))) (hy : ev fr y = some (.int .u8 ((v * 2 ^ d : Nat) : Int))) (h : v < 2 ∧ d ≤ 7 ∧ b.toNat % 2 ^ (d + 1) = 0) (hw : w.toNat = b.toNat + v * 2 ^ d) : Ex P n w0 rs fr (.binOp .or t x y t') ty (.int .u8 (w.toNat : Int)) := by
  have := Ex.or (P := P) (n := n) (w0 := w0) (rs := rs) (ty := ty) (t := t) (t' := t') hx hy
  have h1 := UInt8.toNat_lt b
  have hp : 2 ^ d ≤ 2 ^ 7 := Nat.pow_le_pow_right (by decide) h.2.1
  have hb : v * 2 ^ d ≤ 1 * 2 ^ d := Nat.mul_le_mul_right _ (by omega)
  have hpos : 0 < 2 ^ d := Nat.pow_pos (by decide)
  have hm : ((b.toNat : Int)) % 2 ^ (d + 1) = 0 := by
    have e := congrArg (fun n : Nat => (n : Int)) h.2.2
    simp only [Int.natCast_emod, Int.natCast_pow] at e
    exact e
  have hlt : ((v * 2 ^ d : Nat) : Int) < 2 ^ (d + 1) := by
    have e : v * 2 ^ d < 2 ^ (d + 1) := by rw [Nat.pow_succ]; omega
    have e2 : ((2 ^ (d + 1) : Nat) : Int) = (2 : Int) ^ (d + 1) := by rw [Int.natCast_pow]; rfl
    rw [← e2]; omega
  rw [bits_join .u8 8 (by decide) (fun n h0 h1 => u8_in' n h0 h1) (d + 1) (b.toNat : Int) ((v * 2 ^ d : Nat) : Int) (by omega) hm (by omega) (by omega) hlt (by omega)] at this
  rwa [show ((b.toNat : Int)) + ((v * 2 ^ d : Nat) : Int) = (w.toNat : Int) by omega] at this
theorem Ex.orLow {a v : Nat} (hx : ev fr x = some (.int .i64 ((a * 2 ^ 1 : Nat) : Int))) (hy : ev fr y = some (.int .i64 (v : Int))) (h : v < 2 ∧ a ≤ 2305843009213693951) : Ex P n w0 rs fr (.binOp .or t x y t') ty (.int .i64 ((2 * a + v : Nat) : Int)) := by
  have := Ex.or (P := P) (n := n) (w0 := w0) (rs := rs) (ty := ty) (t := t) (t' := t') hx hy
  rw [bits_join .i64 63 (by decide) (fun n h0 h1 => i64_in n (by omega)) 1 ((a * 2 ^ 1 : Nat) : Int) (v : Int) (by omega) (by omega) (by omega) (by omega) (by omega) (by omega)] at this
  rwa [show ((a * 2 ^ 1 : Nat) : Int) + (v : Int) = ((2 * a + v : Nat) : Int) by omega] at this
end
attribute [local irreducible] Ex G GC GE Gq FPost LPost
set_option linter.unusedVariables false
set_option linter.unusedSimpArgs false
namespace huff
open sort
theorem quot_cast (a b : Nat) : (a : Int) / 2 ^ b = ((a / 2 ^ b : Nat) : Int) := by
  rw [Int.natCast_ediv, Int.natCast_pow]; rfl
theorem Room.fits {out : List UInt8} {bs : List Nat} (h : Room out bs) (v : Nat) (hv : v < 2) : (out.getD (bs.length / 8) default).toNat % 2 ^ (7 - bs.length % 8 + 1) = 0 ∧ (UInt8.ofNat ((out.getD (bs.length / 8) default).toNat + v * 2 ^ (7 - bs.length % 8))).toNat = (out.getD (bs.length / 8) default).toNat + v * 2 ^ (7 - bs.length % 8) := by
  have hl := h.low
  obtain ⟨r, hr⟩ : ∃ r, bs.length % 8 = r := ⟨_, rfl⟩
  have hr8 : r < 8 := by omega
  rw [hr] at hl ⊢
  have hp := pv_lt (bitL_lt h.lt) (8 * (bs.length / 8)) r
  obtain ⟨p, hpe⟩ : ∃ p, pv (bitL bs) (8 * (bs.length / 8)) r = p := ⟨_, rfl⟩
  rw [hpe] at hl hp
  have e : 8 - r = 7 - r + 1 := by omega
  refine ⟨by rw [hl, e, Nat.mul_mod_left], ?_⟩
  have h1 : (p + 1) * 2 ^ (8 - r) ≤ 2 ^ r * 2 ^ (8 - r) := Nat.mul_le_mul_right _ hp
  rw [← Nat.pow_add, show r + (8 - r) = 8 by omega, Nat.add_mul, Nat.one_mul] at h1
  have h2 : 2 ^ (8 - r) = 2 ^ (7 - r) * 2 := by rw [e, Nat.pow_succ]
  have h3 : v * 2 ^ (7 - r) ≤ 1 * 2 ^ (7 - r) := Nat.mul_le_mul_right _ (by omega)
  have h4 : 0 < 2 ^ (7 - r) := Nat.pow_pos (by decide)
  have h5 : (out.getD (bs.length / 8) default).toNat + v * 2 ^ (7 - r) < 256 := by rw [hl]; omega
  rw [UInt8.toNat_ofNat', Nat.mod_eq_of_lt h5]
set_option maxHeartbeats 32000000 in
theorem encode_sp (la : Option Addr) (ln lc : Nat) (Ls : List Int) (hl : Ls.length = ln) (hln : ln ≤ 64) (h0 : ∀ z ∈ Ls, 0 ≤ z) (m : May (cN Ls) ln) (sa : Option Addr) (sn sc : Nat) (S : List Nat) (hS : S.length = sn) (hsn : sn ≤ 4096) (hin : ∀ s ∈ S, s < ln ∧ 0 < cN Ls s) :
    Spec Try.prog 14 [.slice la ln lc, .slice sa sn sc] [LS la ln lc Ls, .sl sa sn sc 1 (flat eN S)] fun v give => ∃ (cs : Nat → Nat) (out : List UInt8) (oa : Option Addr) (oc : Nat), Coded (cN Ls) cs ln ∧ Packed out (allBits (cN Ls) cs S) ∧ v = .tuple #[.slice oa out.length oc, .int .i64 0] ∧ give = [.vec 5 1 oa out.length oc (flat eB out)] := by
  refine Spec.intro Try.func14 rfl Try.ntmps14 rfl fun w0 rest rs_ hrs_ => ?_
  simp only [List.cons_append, List.nil_append] at hrs_
  subst hrs_
  repeat (first | (apply G.ex (hd := rfl); case h => (first | exact Ex.move rfl | exact Ex.assign rfl)) | refine G.nil ?_ | refine GC.seq ?_ | refine GC.region ?_ | refine GE.then_normal ?_)
  first | refine G.call (caps := []) (may_sp la ln lc Ls hl hln h0 m) rfl rfl rfl rfl (by repeat first | exact tn_ | apply td_ rfl | apply tc_ | exact .here | apply Take1.there) ?_ | refine G.callU (caps := []) (may_sp la ln lc Ls hl hln h0 m) rfl rfl rfl (by repeat first | exact tn_ | apply td_ rfl | apply tc_ | exact .here | apply Take1.there) ?_
  rintro v_ give_ ⟨rfl, rfl⟩ rs_ hrs_
  simp only [List.cons_append, List.nil_append] at hrs_
  subst hrs_
  repeat (first | (apply G.ex (hd := rfl); case h => (first | exact Ex.move rfl | exact Ex.notB rfl)) | refine G.nil ?_ | refine GC.seq ?_ | refine GC.region ?_ | refine GC.skip ?_ | refine GE.then_normal ?_ | refine GC.cond_f rfl ?_)
  first | refine G.call (caps := []) (codes_sp la ln lc Ls hl hln h0 m) rfl rfl rfl rfl (by repeat first | exact tn_ | apply td_ rfl | apply tc_ | exact .here | apply Take1.there) ?_ | refine G.callU (caps := []) (codes_sp la ln lc Ls hl hln h0 m) rfl rfl rfl (by repeat first | exact tn_ | apply td_ rfl | apply tc_ | exact .here | apply Take1.there) ?_
  rintro v_ give_ ⟨cl, ka, kc, hcl, hc0, hcd, rfl, rfl⟩ rs_ hrs_
  simp only [List.cons_append, List.nil_append] at hrs_
  subst hrs_
  have vo : ∀ i, i < ln → Ls.getD i default = ((cN Ls i : Nat) : Int) := fun i hi => by
    have := h0 (Ls.getD i default) (getD_in (by omega))
    unfold cN; omega
  have vc : ∀ i, i < ln → cl.getD i default = ((cN cl i : Nat) : Int) := fun i hi => by
    have := hc0 (cl.getD i default) (getD_in (by omega))
    unfold cN; omega
  clear h0 hc0
  have htot : ∀ i, allLen (cN Ls) (S.take i) ≤ 163840 := fun i => by
    have h1 := allLen_le (cN Ls) (S := S) i
    have h2 := allLen_bd (cN Ls) (S := S) (fun s hs => m.le s (hin s hs).1)
    omega
  repeat (first | (apply G.ex (hd := rfl); case h => (first | exact Ex.move rfl | exact Ex.lenSl rfl | exact Ex.assign rfl)) | refine G.nil ?_ | refine GC.seq ?_ | refine GC.region ?_ | refine GC.block ?_ | refine GE.then_normal ?_)
  first | refine G.nilvec 5 1 ?_ | refine GC.nilvec 5 1 ?_
  repeat (first | fail)
  refine GC.loop (ι := Nat × List UInt8 × Option Addr × Nat) (fun x => x.1 ≤ sn ∧ Packed x.2.1 (allBits (cN Ls) (cN cl) (S.take x.1))) (fun x => sn - x.1) (fun x => [(0, .slice la ln lc), (6, .slice ka ln kc), (7, .slice x.2.2.1 x.2.1.length x.2.2.2), (8, .int .i64 ((allLen (cN Ls) (S.take x.1) : Nat) : Int)), (17, .slice sa sn sc), (18, .int .i64 (sn : Int)), (19, .int .i64 (x.1 : Int))]) (fun x => [.vec 5 1 x.2.2.1 x.2.1.length x.2.2.2 (flat eB x.2.1), .vec 3 1 ka ln kc (flat (eI .i64) cl), LS la ln lc Ls, .sl sa sn sc 1 (flat eN S)]) (0, [], none, 0) ⟨Nat.zero_le _, .nil⟩ (by simp only [fits]; repeat (first | exact trivial | refine And.intro rfl ?_)) (by repeat first | exact tn_ | apply td_ rfl | apply tc_ | exact .here | apply Take1.there) ?_
  rintro ⟨i, out, oa, oc⟩ ⟨hi, hP⟩ fr_ rs_ hfr_ hrs_
  simp only [List.cons_append, List.nil_append] at hfr_ hrs_
  subst hfr_ hrs_
  simp only at hi hP
  by_cases c : i < sn
  · obtain ⟨s, hse⟩ : ∃ s, S.getD i default = s := ⟨_, rfl⟩
    have hs := hin s (by rw [← hse]; exact getD_mem' (by omega))
    have hls := vo s hs.1
    have hcs := vc s hs.1
    have hlt := allLen_take (cN Ls) (S := S) (i := i) (by omega)
    have htk : S.take (i + 1) = S.take i ++ [s] := by
      rw [List.take_succ_eq_append_getElem (by omega)]; congr 2
      rw [← hse, List.getD_eq_getElem?_getD, List.getElem?_eq_getElem (by omega)]; rfl
    have hl40 := m.le s hs.1
    have hcb := hcd.lt m hs.1
    rw [hse] at hlt
    have hn1 := htot (i + 1)
    have hbl := allBits_len (cN Ls) (cN cl) (S.take i)
    obtain ⟨bs0, hb0⟩ : ∃ b, allBits (cN Ls) (cN cl) (S.take i) = b := ⟨_, rfl⟩
    have hsn2 : allBits (cN Ls) (cN cl) (S.take (i + 1)) = bs0 ++ codeBits (cN cl s) (cN Ls s) (cN Ls s) := by rw [htk, allBits_snoc, hb0]
    rw [hb0] at hP hbl
    obtain ⟨l, hle⟩ : ∃ l, cN Ls s = l := ⟨_, rfl⟩
    obtain ⟨a, hae⟩ : ∃ a, cN cl s = a := ⟨_, rfl⟩
    obtain ⟨n0, hn0⟩ : ∃ n0, allLen (cN Ls) (S.take i) = n0 := ⟨_, rfl⟩
    obtain ⟨n1, hn1e⟩ : ∃ n1, allLen (cN Ls) (S.take (i + 1)) = n1 := ⟨_, rfl⟩
    rw [hle] at hls hlt hl40 hcb hsn2
    rw [hae] at hcs hcb hsn2
    have hs0 : 0 < l := by rw [← hle]; exact hs.2
    have hsl : s < ln := hs.1
    rw [hn0] at hbl hlt
    rw [hn1e] at hn1 hlt
    have hnx : ∀ o : List UInt8, Packed o (bs0 ++ codeBits a l l) → Packed o (allBits (cN Ls) (cN cl) (S.take (i + 1))) := fun o h => by rw [hsn2]; exact h
    have ha41 : a ≤ 1099511627776 := Nat.le_trans (Nat.le_of_lt hcb) (Nat.le_trans (Nat.pow_le_pow_right (by decide) hl40) (by decide))
    have q1 : ¬ (s : Int) < 0 := by omega
    have q2 : ¬ (s : Int) ≥ (ln : Int) := by omega
    have q3 : ¬ (l : Int) = 0 := by omega
    rw [hn0]
    clear hsn2 htk vo vc htot hin hb0 hs hcd m hle hae
    repeat (first | (apply G.ex (hd := rfl); case h => (first | exact Ex.move rfl | exact Ex.lss rfl rfl | exact Ex.geq rfl rfl | exact Ex.eqI rfl rfl | exact Ex.lenSl rfl | exact Ex.indexN rfl rfl (by first | omega | (simp; done) | (simp; omega)) | exact Ex.loadT0 rfl (by first | omega | (simp; done) | (simp; omega)) rfl | exact Ex.assign rfl | exact Ex.pickF rfl (by first | assumption | omega) rfl)) | refine G.g_ff rfl rfl (by first | assumption | omega) ?_ | refine G.nil ?_ | refine GC.seq ?_ | refine GC.region ?_ | refine GC.block ?_ | refine GC.skip ?_ | refine GE.then_normal ?_ | refine GC.cond_yes rfl (by first | assumption | omega) ?_)
    rw [hse]
    repeat (first | (apply G.ex (hd := rfl); case h => (first | exact Ex.move rfl | exact Ex.sub rfl rfl (by omega) | exact Ex.indexN rfl rfl (by first | omega | (simp; done) | (simp; omega)) | exact Ex.loadT0 rfl (by first | omega | (simp; done) | (simp; omega)) rfl | exact Ex.assign rfl)) | refine G.nil ?_ | refine GC.seq ?_ | refine GC.region ?_ | refine GC.block ?_ | refine GC.skip ?_ | refine GE.then_normal ?_ | refine GC.cond_no rfl (by first | assumption | omega) ?_)
    rw [hls]
    repeat (first | fail)
    rw [show (l : Int) - 1 = (l : Int) - 1 - ((0 : Nat) : Int) by omega]
    refine GC.loop (ι := Nat × List UInt8 × Option Addr × Nat) (fun x => x.1 ≤ l ∧ Packed x.2.1 (bs0 ++ codeBits a l x.1)) (fun x => l - x.1) (fun x => [(0, .slice la ln lc), (6, .slice ka ln kc), (7, .slice x.2.2.1 x.2.1.length x.2.2.2), (8, .int .i64 ((n0 + x.1 : Nat) : Int)), (10, .int .i64 (s : Int)), (11, .int .i64 ((l : Int) - 1 - (x.1 : Int))), (17, .slice sa sn sc), (18, .int .i64 (sn : Int)), (19, .int .i64 (i : Int))]) (fun x => [.vec 5 1 x.2.2.1 x.2.1.length x.2.2.2 (flat eB x.2.1), .vec 3 1 ka ln kc (flat (eI .i64) cl), LS la ln lc Ls, .sl sa sn sc 1 (flat eN S)]) (0, out, oa, oc) ⟨Nat.zero_le _, by unfold codeBits; rw [List.range_zero, List.map_nil, List.append_nil]; exact hP⟩ (by simp only [fits]; repeat (first | exact trivial | refine And.intro rfl ?_)) (by repeat first | exact tn_ | apply td_ rfl | apply tc_ | exact .here | apply Take1.there) ?_
    clear hP
    rintro ⟨j, o, pa, pc⟩ ⟨hj, hQ⟩ fr_ rs_ hfr_ hrs_
    simp only [List.cons_append, List.nil_append] at hfr_ hrs_
    subst hfr_ hrs_
    simp only at hj hQ
    by_cases d : j < l
    · have d' : (l : Int) - 1 - (j : Int) ≥ 0 := by omega
      have hnb : (bs0 ++ codeBits a l j).length = n0 + j := by rw [List.length_append, codeBits_len, hbl]
      have hcbn := codeBits_next a l j
      have hDb := Nat.div_le_self a (2 ^ (l - 1 - j))
      obtain ⟨D, hD⟩ : ∃ D, a / 2 ^ (l - 1 - j) = D := ⟨_, rfl⟩
      rw [hD] at hcbn hDb
      obtain ⟨v, hv⟩ : ∃ v, D % 2 = v := ⟨_, rfl⟩
      have hv2 : v < 2 := by rw [← hv]; exact Nat.mod_lt _ (by decide)
      rw [hv] at hcbn
      have hnext : ∀ o2, Packed o2 ((bs0 ++ codeBits a l j) ++ [v]) → Packed o2 (bs0 ++ codeBits a l (j + 1)) := fun o2 h => by rw [hcbn, ← List.append_assoc]; exact h
      obtain ⟨n, hne⟩ : ∃ n, n0 + j = n := ⟨_, rfl⟩
      rw [hne] at hnb
      generalize bs0 ++ codeBits a l j = bs at hQ hnb hnext
      clear hcbn
      have hn2 : n ≤ 163840 := by omega
      rw [hne]
      repeat ((fail_if_success (refine GC.seq ?_; refine GC.region (id := 14) ?_)); first | (apply G.ex (hd := rfl); case h => (first | exact Ex.move rfl | exact Ex.geq rfl rfl)) | refine G.nil ?_ | refine GC.seq ?_ | refine GC.region ?_ | refine GC.block ?_ | refine GC.skip ?_ | refine GE.then_normal ?_ | refine GC.cond_yes rfl (by first | assumption | omega) ?_)
      refine GC.meet (ι := List UInt8 × Option Addr × Nat) (fun x => Room x.1 bs) (fun x => [(0, .slice la ln lc), (6, .slice ka ln kc), (7, .slice x.2.1 x.1.length x.2.2), (8, .int .i64 (n : Int)), (10, .int .i64 (s : Int)), (11, .int .i64 ((l : Int) - 1 - (j : Int))), (17, .slice sa sn sc), (18, .int .i64 (sn : Int)), (19, .int .i64 (i : Int))]) (fun x => [.vec 5 1 x.2.1 x.1.length x.2.2 (flat eB x.1), .vec 3 1 ka ln kc (flat (eI .i64) cl), LS la ln lc Ls, .sl sa sn sc 1 (flat eN S)]) (LS la ln lc Ls :: .sl sa sn sc 1 (flat eN S) :: LS la ln lc Ls :: .sl sa sn sc 1 (flat eN S) :: rest) ?_ ?_
      · have hol := hQ.len
        rw [hnb] at hol
        by_cases e : n % 8 = 0
        · have e' : (n : Int) % 8 = 0 := by omega
          have hR := hQ.more (by rw [hnb]; exact e)
          have hcat : flat eB o ++ flat eB [0] = flat eB (o ++ [0]) := (flat_append ..).symm
          have hln2 : o.length + 1 = (o ++ [0]).length := by rw [List.length_append]; rfl
          repeat (first | (apply G.ex (hd := rfl); case h => (first | exact Ex.move rfl | exact Ex.eqI rfl rfl | exact Ex.rem rfl rfl (by omega))) | refine G.nil ?_ | refine GC.seq ?_ | refine GC.region ?_ | refine GE.then_normal ?_ | refine GC.cond_yes rfl (by first | assumption | omega) ?_)
          refine G.lit (cells := flat eB [0]) rfl (by rfl) (by rfl) (by rfl) (by rfl) (by rfl) (by rfl) rfl (fun q => ?_)
          refine G.app rfl rfl (by rfl) (by omega) rfl (hcat) (fun o2 oc2 rs_ hrs_ => ?_)
          try simp only at hrs_
          subst hrs_
          rw [hln2]
          repeat (first | (apply G.ex (hd := rfl); case h => (first | exact Ex.assign rfl)) | refine G.nil ?_)
          refine GE.meet (o ++ [0], o2, oc2) hR (by simp only [fits]; repeat (first | exact trivial | refine And.intro rfl ?_)) (by repeat first | exact tn_ | apply td_ rfl | apply tc_ | exact .here | apply Take1.there) (by repeat (first | exact Subs.refl | refine Subs.skip ?_))
        · have e' : ¬ (n : Int) % 8 = 0 := by omega
          have hR := hQ.room (by rw [hnb]; exact e)
          repeat (first | (apply G.ex (hd := rfl); case h => (first | exact Ex.move rfl | exact Ex.eqI rfl rfl | exact Ex.rem rfl rfl (by omega))) | refine G.nil ?_ | refine GC.seq ?_ | refine GC.region ?_ | refine GC.skip ?_ | refine GE.then_normal ?_ | refine GC.cond_no rfl (by first | assumption | omega) ?_)
          refine GE.meet (o, pa, pc) hR (by simp only [fits]; repeat (first | exact trivial | refine And.intro rfl ?_)) (by repeat first | exact tn_ | apply td_ rfl | apply tc_ | exact .here | apply Take1.there) (by repeat (first | exact Subs.refl | refine Subs.skip ?_))
      clear hQ
      rintro ⟨o, pa, pc⟩ hR fr_ rs_ hfr_ hrs_
      simp only [List.cons_append, List.nil_append] at hfr_ hrs_
      subst hfr_ hrs_
      simp only at hR
      have hfit := hR.fits v hv2
      have hput := hR.put (w := UInt8.ofNat ((o.getD (bs.length / 8) default).toNat + v * 2 ^ (7 - bs.length % 8))) hv2 hfit.2
      have hol := hR.len
      rw [hnb] at hfit hput hol
      obtain ⟨w, hw⟩ : ∃ w, UInt8.ofNat ((o.getD (n / 8) default).toNat + v * 2 ^ (7 - n % 8)) = w := ⟨_, rfl⟩
      rw [hw] at hfit hput
      have hput2 := hnext _ hput
      obtain ⟨f1, f2⟩ := hfit
      have hq8 : n / 8 < o.length := by omega
      have hgo : (flat eB o)[(n / 8) * 1 + 0]? = some (.int .u8 ((o.getD (n / 8) default).toNat : Int)) := flat_at (inferInstance : Enc eB 1) o (n / 8) 0 hq8 (by decide)
      have hgc : (flat (eI .i64) cl)[s * 1 + 0]? = some (.int .i64 (a : Int)) := by rw [← hcs]; exact flat_at (inferInstance : Enc (eI .i64) 1) cl s 0 (by omega) (by decide)
      clear hR hw hput hnext
      repeat (first | refine GC.seq ?_ | refine GE.then_normal ?_)
      refine GC.vecSome (List.mem_cons_self ..) (by omega) fun qa hqa => ?_
      subst hqa
      refine GC.vecSome (List.mem_cons_of_mem _ (List.mem_cons_self ..)) (by omega) fun qk hqk => ?_
      subst hqk
      refine GC.drawA [19] [.vec 5 1 (some qa) o.length pc (flat eB o), .vec 3 1 (some qk) ln kc (flat (eI .i64) cl)] (by repeat first | exact tn_ | apply td_ rfl | apply tc_ | exact .here | apply Take1.there) (by kernel_rfl) ?_
      first | (apply GA.take [] (hD := .inl rfl) (hsub := ⟨_, Takes.nil⟩) (i := 0) (hi := rfl) (hs := by kernel_rfl) (hfr := by kernel_rfl) (hr := by kernel_rfl) (hQ := np_) (hd := rfl); case hx => (first | exact Ex.move rfl))
      first | (apply GA.take [] (hD := .inl rfl) (hsub := ⟨_, Takes.nil⟩) (i := 1) (hi := rfl) (hs := by kernel_rfl) (hfr := by kernel_rfl) (hr := by kernel_rfl) (hQ := np_) (hd := rfl); case hx => (first | exact Ex.move rfl))
      first | (apply GA.take [] (hD := .inl rfl) (hsub := ⟨_, Takes.nil⟩) (i := 2) (hi := rfl) (hs := by kernel_rfl) (hfr := by kernel_rfl) (hr := by kernel_rfl) (hQ := np_) (hd := rfl); case hx => (first | exact Ex.quo rfl rfl (by omega)))
      rw [show ((n : Int)) / 8 = ((n / 8 : Nat) : Int) by omega]
      apply GA.take [] (hD := .inl rfl) (hsub := ⟨_, Takes.nil⟩) (i := 3) (hi := rfl) (hs := by kernel_rfl) (hfr := by kernel_rfl) (hr := by kernel_rfl) (hQ := np_) (hd := rfl) (hx := (Ex.indexSome (k := n / 8) rfl rfl hq8))
      apply GA.take _ (hD := .inr ⟨rfl, by kernel_rfl⟩) (hsub := ⟨_, (by repeat first | exact tn_ | apply td_ rfl | apply tc_ | exact .here | apply Take1.there)⟩) (i := 4) (hi := rfl) (hs := by kernel_rfl) (hfr := by kernel_rfl) (hr := by kernel_rfl) (hQ := np_) (hd := rfl) (hx := (Ex.loadE (k := (n / 8) * 1) rfl hgo))
      first | (apply GA.take [] (hD := .inl rfl) (hsub := ⟨_, Takes.nil⟩) (i := 5) (hi := rfl) (hs := by kernel_rfl) (hfr := by kernel_rfl) (hr := by kernel_rfl) (hQ := np_) (hd := rfl); case hx => (first | exact Ex.move rfl))
      first | (apply GA.take [] (hD := .inl rfl) (hsub := ⟨_, Takes.nil⟩) (i := 6) (hi := rfl) (hs := by kernel_rfl) (hfr := by kernel_rfl) (hr := by kernel_rfl) (hQ := np_) (hd := rfl); case hx => (first | exact Ex.move rfl))
      apply GA.take [] (hD := .inl rfl) (hsub := ⟨_, Takes.nil⟩) (i := 7) (hi := rfl) (hs := by kernel_rfl) (hfr := by kernel_rfl) (hr := by kernel_rfl) (hQ := np_) (hd := rfl) (hx := (Ex.indexSome (k := s) rfl rfl hsl))
      apply GA.take _ (hD := .inr ⟨rfl, by kernel_rfl⟩) (hsub := ⟨_, (by repeat first | exact tn_ | apply td_ rfl | apply tc_ | exact .here | apply Take1.there)⟩) (i := 8) (hi := rfl) (hs := by kernel_rfl) (hfr := by kernel_rfl) (hr := by kernel_rfl) (hQ := np_) (hd := rfl) (hx := (Ex.loadE (k := s * 1) rfl hgc))
      first | (apply GA.take [] (hD := .inl rfl) (hsub := ⟨_, Takes.nil⟩) (i := 9) (hi := rfl) (hs := by kernel_rfl) (hfr := by kernel_rfl) (hr := by kernel_rfl) (hQ := np_) (hd := rfl); case hx => (first | exact Ex.move rfl))
      apply GA.take [] (hD := .inl rfl) (hsub := ⟨_, Takes.nil⟩) (i := 10) (hi := rfl) (hs := by kernel_rfl) (hfr := by kernel_rfl) (hr := by kernel_rfl) (hQ := np_) (hd := rfl) (hx := (Ex.shrN rfl rfl (by omega)))
      rw [show ((l : Int) - 1 - (j : Int)).toNat = l - 1 - j by omega, quot_cast, hD]
      apply GA.take [] (hD := .inl rfl) (hsub := ⟨_, Takes.nil⟩) (i := 11) (hi := rfl) (hs := by kernel_rfl) (hfr := by kernel_rfl) (hr := by kernel_rfl) (hQ := np_) (hd := rfl) (hx := (Ex.andBit rfl rfl (by omega)))
      rw [show (D : Int) % 2 = ((D % 2 : Nat) : Int) from (Int.natCast_emod ..).symm, hv]
      first | (apply GA.take [] (hD := .inl rfl) (hsub := ⟨_, Takes.nil⟩) (i := 12) (hi := rfl) (hs := by kernel_rfl) (hfr := by kernel_rfl) (hr := by kernel_rfl) (hQ := np_) (hd := rfl); case hx => (first | exact Ex.conv8 rfl))
      rw [show (v : Int) % 256 = (v : Int) by omega]
      first | (apply GA.take [] (hD := .inl rfl) (hsub := ⟨_, Takes.nil⟩) (i := 13) (hi := rfl) (hs := by kernel_rfl) (hfr := by kernel_rfl) (hr := by kernel_rfl) (hQ := np_) (hd := rfl); case hx => (first | exact Ex.move rfl))
      first | (apply GA.take [] (hD := .inl rfl) (hsub := ⟨_, Takes.nil⟩) (i := 14) (hi := rfl) (hs := by kernel_rfl) (hfr := by kernel_rfl) (hr := by kernel_rfl) (hQ := np_) (hd := rfl); case hx => (first | exact Ex.rem rfl rfl (by omega)))
      first | (apply GA.take [] (hD := .inl rfl) (hsub := ⟨_, Takes.nil⟩) (i := 15) (hi := rfl) (hs := by kernel_rfl) (hfr := by kernel_rfl) (hr := by kernel_rfl) (hQ := np_) (hd := rfl); case hx => (first | exact Ex.sub rfl rfl (by omega)))
      rw [show (7 : Int) - (n : Int) % 8 = ((7 - n % 8 : Nat) : Int) by omega]
      apply GA.take [] (hD := .inl rfl) (hsub := ⟨_, Takes.nil⟩) (i := 16) (hi := rfl) (hs := by kernel_rfl) (hfr := by kernel_rfl) (hr := by kernel_rfl) (hQ := np_) (hd := rfl) (hx := (Ex.shlU8 (v := v) (d := 7 - n % 8) rfl rfl (by omega)))
      apply GA.take [] (hD := .inl rfl) (hsub := ⟨_, Takes.nil⟩) (i := 17) (hi := rfl) (hs := by kernel_rfl) (hfr := by kernel_rfl) (hr := by kernel_rfl) (hQ := np_) (hd := rfl) (hx := (Ex.orPut w rfl rfl ⟨hv2, by omega, f1⟩ f2))
      apply GA.take [] (hD := .inl rfl) (hsub := ⟨_, Takes.nil⟩) (i := 18) (hi := rfl) (hs := by kernel_rfl) (hfr := by kernel_rfl) (hr := by kernel_rfl) (hQ := np_) (hd := rfl) (hx := (Ex.indexSome (k := n / 8) rfl rfl hq8))
      refine GA.one (i := 19) (by kernel_rfl) rfl ?_
      first | refine G.storeT0 rfl rfl rfl rfl (by first | omega | (simp; omega)) rfl (w) (rfl) (fun rs_ hrs_ => ?_) | refine G.storeT rfl rfl rfl rfl (by first | omega | (simp; omega)) rfl (w) (rfl) (fun rs_ hrs_ => ?_) | refine G.storeTA rfl rfl (by first | omega | (simp; omega)) rfl (w) (rfl) (fun rs_ hrs_ => ?_)
      try simp only at hrs_
      subst hrs_
      try refine G.nil ?_
      refine GA.back (by first | exact .inl (by decide) | exact .inr ⟨_, (by repeat first | exact tn_ | apply td_ rfl | apply tc_ | exact .here | apply Take1.there)⟩) ?_
      refine GA.done (by kernel_rfl) ?_
      repeat (first | (apply G.ex (hd := rfl); case h => (first | exact Ex.move rfl | exact Ex.add rfl rfl (by omega) | exact Ex.sub rfl rfl (by omega) | exact Ex.assign rfl)) | refine G.nil ?_ | refine GC.region ?_ | refine GE.then_normal ?_ | refine GE.block_normal ?_)
      rw [show (n : Int) + 1 = ((n0 + (j + 1) : Nat) : Int) by omega, show (l : Int) - 1 - (j : Int) - 1 = (l : Int) - 1 - ((j + 1 : Nat) : Int) by omega, show o.length = (o.set (n / 8) w).length by rw [List.length_set]]
      refine GE.loop (j + 1, o.set (n / 8) w, some qa, pc) ⟨by simp only; omega, hput2⟩ (by simp only; omega) (by simp only [fits]; repeat (first | exact trivial | refine And.intro rfl ?_)) (by repeat first | exact tn_ | apply td_ rfl | apply tc_ | exact .here | apply Take1.there) (by repeat (first | exact Subs.refl | refine Subs.skip ?_))
    · obtain rfl : j = l := by omega
      have d' : ¬ (j : Int) - 1 - (j : Int) ≥ 0 := by omega
      have hfin := hnx o hQ
      repeat (first | (apply G.ex (hd := rfl); case h => (first | exact Ex.move rfl | exact Ex.add rfl rfl (by omega) | exact Ex.geq rfl rfl)) | refine G.nil ?_ | refine GC.seq ?_ | refine GC.region ?_ | refine GC.exit ?_ | refine GE.then_normal ?_ | refine GE.then_exit ?_ | refine GE.block_normal ?_ | refine GE.block_hit ?_ | refine GC.cond_no rfl (by first | assumption | omega) ?_)
      rw [show (i : Int) + 1 = ((i + 1 : Nat) : Int) by omega, ← hlt, ← hn1e]
      refine GE.loop (i + 1, o, pa, pc) ⟨by simp only; omega, hfin⟩ (by simp only; omega) (by simp only [fits]; repeat (first | exact trivial | refine And.intro rfl ?_)) (by repeat first | exact tn_ | apply td_ rfl | apply tc_ | exact .here | apply Take1.there) (by repeat (first | exact Subs.refl | refine Subs.skip ?_))
  · obtain rfl : i = sn := by omega
    rw [List.take_of_length_le (by omega)] at hP
    repeat (first | (apply G.ex (hd := rfl); case h => (first | exact Ex.move rfl | exact Ex.lss rfl rfl | exact Ex.assign rfl)) | refine G.nil ?_ | refine GC.seq ?_ | refine GC.region ?_ | refine GC.ret ?_ | refine GC.exit ?_ | refine GE.then_normal ?_ | refine GE.then_exit ?_ | refine GE.block_hit ?_ | refine GC.cond_no rfl (by first | assumption | omega) ?_)
    refine GE.ret (by first | exact .inl rfl | exact .inr rfl) (res2 Try.results14 rfl rfl) ⟨cN cl, out, oa, oc, hcd, hP, rfl, rfl⟩ (by repeat first | exact tn_ | apply td_ rfl | apply tc_ | exact .here | apply Take1.there) (by repeat (first | exact Subs.refl | refine Subs.skip ?_))
end huff
end Go.Proofs.Ytfkgchdbjfbdaaa
