/-
  PLAIN MODEL of package seg: a segment's bytes, and what is read of bytes. No program in sight.
-/
import Derived.Test.YtfahoengenbgcaaInetP
namespace Go.Proofs.Ytfahoengenbgcaa
open Go.RowKit
set_option linter.unusedVariables false
set_option linter.unusedSimpArgs false

namespace seg
abbrev R := Int × Int
structure Sg where
  q : Int
  a : Int
  w : Int
  f : Nat
  sk : List R
  d : List UInt8
instance : Inhabited Sg := ⟨⟨0, 0, 0, 0, [], []⟩⟩
def bt (f i : Nat) : Bool := decide (f / 2 ^ i % 2 = 1)
structure Rng (s : Sg) : Prop where
  q : 0 ≤ s.q ∧ s.q < 65536
  a : 0 ≤ s.a ∧ s.a < 65536
  w : 0 ≤ s.w ∧ s.w < 65536
  f : s.f < 16
  sk : ∀ r ∈ s.sk, (0 ≤ r.1 ∧ r.1 < 65536) ∧ 0 ≤ r.2 ∧ r.2 < 65536
def flt (s : Sg) : Int := if 3 < s.sk.length ∨ 64 < s.d.length then 1 else if bt s.f 3 = false ∧ (s.a ≠ 0 ∨ s.w ≠ 0 ∨ s.sk ≠ []) then 4 else 0
def w16 (n : Int) : List UInt8 := [byteZ (n / 256), byteZ n]
def rg (l : List R) : List UInt8 := l.flatMap fun r => w16 r.1 ++ w16 r.2
def body (s : Sg) : List UInt8 := w16 s.q ++ w16 s.a ++ w16 s.w ++ [byteZ s.f, byteZ s.sk.length] ++ w16 0 ++ rg s.sk ++ s.d
def sum (l : List UInt8) : Int := 65535 - inet.ofold (inet.ws false l)
def enc (s : Sg) : List UInt8 := ((body s).set 8 (byteZ (sum (body s) / 256))).set 9 (byteZ (sum (body s)))
def wd (l : List UInt8) (i : Nat) : Int := ((l.getD i default).toNat : Int) * 256 + ((l.getD (i + 1) default).toNat : Int)
def blank (l : List UInt8) : List UInt8 := (l.set 8 0).set 9 0
def dat (l : List UInt8) : Nat := 10 + 4 * (l.getD 7 default).toNat
def rgs (l : List UInt8) (k : Nat) : List R := (List.range k).map fun i => (wd l (10 + 4 * i), wd l (10 + 4 * i + 2))
def parse (l : List UInt8) : Sg := ⟨wd l 0, wd l 2, wd l 4, (l.getD 6 default).toNat, rgs l (l.getD 7 default).toNat, l.drop (dat l)⟩
def dec (l : List UInt8) : Int × Sg :=
  if l.length < 10 then (5, default) else if ¬ sum (blank l) = wd l 8 then (6, default)
  else if 16 ≤ (l.getD 6 default).toNat ∨ l.length < dat l then (4, default) else if ¬ flt (parse l) = 0 then (4, default) else (0, parse l)
theorem sum_bd (l : List UInt8) : 0 ≤ sum l ∧ sum l ≤ 65535 := by
  have := inet.ofold_bd _ (inet.ws_bd l false).1
  unfold sum; omega
theorem wd_bd (l : List UInt8) (i : Nat) : 0 ≤ wd l i ∧ wd l i < 65536 := by
  have := UInt8.toNat_lt (l.getD i default)
  have := UInt8.toNat_lt (l.getD (i + 1) default)
  unfold wd; omega
theorem wd_w16 (n : Int) (h : 0 ≤ n ∧ n < 65536) : ((byteZ (n / 256)).toNat : Int) * 256 + ((byteZ n).toNat : Int) = n := by
  rw [byteZ_toNat, byteZ_toNat]; omega
theorem enc_eq (s : Sg) : enc s = byteZ (s.q / 256) :: byteZ s.q :: byteZ (s.a / 256) :: byteZ s.a :: byteZ (s.w / 256) :: byteZ s.w :: byteZ s.f :: byteZ s.sk.length :: byteZ (sum (body s) / 256) :: byteZ (sum (body s)) :: (rg s.sk ++ s.d) := by
  unfold enc
  generalize sum (body s) = z
  rfl
theorem blank_enc (s : Sg) : blank (enc s) = body s := by rw [enc_eq]; rfl
theorem rg_len (l : List R) : (rg l).length = 4 * l.length := by
  induction l with
  | nil => rfl
  | cons r l ih => simp only [rg, List.flatMap_cons, List.length_append, w16, List.length_cons, List.length_nil] at ih ⊢; omega
theorem body_len (s : Sg) : (body s).length = 10 + 4 * s.sk.length + s.d.length := by
  unfold body
  simp only [List.length_append, rg_len, w16, List.length_cons, List.length_nil]
theorem enc_len (s : Sg) : (enc s).length = 10 + 4 * s.sk.length + s.d.length := by
  unfold enc; rw [List.length_set, List.length_set, body_len]
theorem rg_at : ∀ (l : List R) (d : List UInt8) (i : Nat), (∀ r ∈ l, (0 ≤ r.1 ∧ r.1 < 65536) ∧ 0 ≤ r.2 ∧ r.2 < 65536) → i < l.length → (wd (rg l ++ d) (4 * i), wd (rg l ++ d) (4 * i + 2)) = l.getD i default
  | [], d, i, _, h => by simp at h
  | r :: l, d, 0, h, _ => by
    have h0 := h r (by simp)
    have e : rg (r :: l) ++ d = byteZ (r.1 / 256) :: byteZ r.1 :: byteZ (r.2 / 256) :: byteZ r.2 :: (rg l ++ d) := rfl
    rw [e]
    show (((byteZ (r.1 / 256)).toNat : Int) * 256 + ((byteZ r.1).toNat : Int), ((byteZ (r.2 / 256)).toNat : Int) * 256 + ((byteZ r.2).toNat : Int)) = r
    rw [wd_w16 _ h0.1, wd_w16 _ h0.2]
  | r :: l, d, i + 1, h, hi => by
    have e : rg (r :: l) ++ d = byteZ (r.1 / 256) :: byteZ r.1 :: byteZ (r.2 / 256) :: byteZ r.2 :: (rg l ++ d) := rfl
    have := rg_at l d i (fun r hr => h r (by simp [hr])) (by simpa using hi)
    rw [e, List.getD_cons_succ, ← this]
    unfold wd
    rw [show 4 * (i + 1) = 4 * i + 1 + 1 + 1 + 1 by omega, show 4 * i + 1 + 1 + 1 + 1 + 2 = 4 * i + 2 + 1 + 1 + 1 + 1 by omega]
    simp only [List.getD_cons_succ]
theorem dec_enc {s : Sg} (h : Rng s) (h0 : flt s = 0) : dec (enc s) = (0, s) := by
  have hl := enc_len s
  have h3 : s.sk.length ≤ 3 := by
    unfold flt at h0
    by_cases h : 3 < s.sk.length ∨ 64 < s.d.length
    · rw [if_pos h] at h0; omega
    · omega
  have hs := sum_bd (body s)
  have b6 : ((enc s).getD 6 default).toNat = s.f := by
    rw [enc_eq]
    show (byteZ (s.f : Int)).toNat = s.f
    have := byteZ_toNat (s.f : Int)
    have := h.f
    omega
  have b7 : ((enc s).getD 7 default).toNat = s.sk.length := by
    rw [enc_eq]
    show (byteZ (s.sk.length : Int)).toNat = s.sk.length
    have := byteZ_toNat (s.sk.length : Int)
    omega
  have hp : parse (enc s) = s := by
    have e0 : wd (enc s) 0 = s.q := by rw [enc_eq]; exact wd_w16 _ h.q
    have e2 : wd (enc s) 2 = s.a := by rw [enc_eq]; exact wd_w16 _ h.a
    have e4 : wd (enc s) 4 = s.w := by rw [enc_eq]; exact wd_w16 _ h.w
    have ed : (enc s).drop (10 + 4 * s.sk.length) = s.d := by
      rw [enc_eq, show 10 + 4 * s.sk.length = (rg s.sk).length + 1 + 1 + 1 + 1 + 1 + 1 + 1 + 1 + 1 + 1 by rw [rg_len]; omega]
      simp only [List.drop_succ_cons, List.drop_left]
    have er : rgs (enc s) s.sk.length = s.sk := by
      apply List.ext_getElem (by simp [rgs])
      intro i h1 h2
      have := rg_at s.sk s.d i h.sk h2
      rw [List.getD_eq_getElem?_getD, List.getElem?_eq_getElem h2] at this
      simp only [Option.getD_some] at this
      rw [← this]
      simp only [rgs, List.getElem_map, List.getElem_range]
      unfold wd
      rw [enc_eq, show 10 + 4 * i = 4 * i + 1 + 1 + 1 + 1 + 1 + 1 + 1 + 1 + 1 + 1 by omega, show 4 * i + 1 + 1 + 1 + 1 + 1 + 1 + 1 + 1 + 1 + 1 + 2 = 4 * i + 2 + 1 + 1 + 1 + 1 + 1 + 1 + 1 + 1 + 1 + 1 by omega]
      simp only [List.getD_cons_succ]
    unfold parse dat
    rw [e0, e2, e4, b6, b7, ed, er]
  have e8 : wd (enc s) 8 = sum (body s) := by rw [enc_eq]; exact wd_w16 _ ⟨hs.1, by omega⟩
  have hd : dat (enc s) = 10 + 4 * s.sk.length := by unfold dat; rw [b7]
  have hf := h.f
  unfold dec
  rw [if_neg (by omega), blank_enc, e8, if_neg (by simp), b6, hd, if_neg (by omega), hp, if_neg (by simp [h0])]
theorem rg_back : ∀ (n : Nat) (t : List UInt8), 4 * n ≤ t.length → rg ((List.range n).map fun i => (wd t (4 * i), wd t (4 * i + 2))) ++ t.drop (4 * n) = t
  | 0, t, _ => rfl
  | n + 1, a :: b :: c :: d :: t, h => by
    have ih := rg_back n t (by simp only [List.length_cons] at h; omega)
    have e : ((List.range (n + 1)).map fun i => (wd (a :: b :: c :: d :: t) (4 * i), wd (a :: b :: c :: d :: t) (4 * i + 2))) = (wd (a :: b :: c :: d :: t) 0, wd (a :: b :: c :: d :: t) 2) :: ((List.range n).map fun i => (wd t (4 * i), wd t (4 * i + 2))) := by
      rw [List.range_succ_eq_map, List.map_cons, List.map_map]
      refine congrArg (List.cons _) (List.map_congr_left fun i _ => ?_)
      simp only [Function.comp, Nat.succ_eq_add_one]
      unfold wd
      rw [show 4 * (i + 1) = 4 * i + 1 + 1 + 1 + 1 by omega, show 4 * i + 1 + 1 + 1 + 1 + 2 = 4 * i + 2 + 1 + 1 + 1 + 1 by omega]
      simp only [List.getD_cons_succ]
    have two : ∀ x y : UInt8, w16 ((x.toNat : Int) * 256 + (y.toNat : Int)) = [x, y] := fun x y => by
      have hx := UInt8.toNat_lt x
      have hy := UInt8.toNat_lt y
      have h1 := byteZ_toNat (((x.toNat : Int) * 256 + (y.toNat : Int)) / 256)
      have h2 := byteZ_toNat ((x.toNat : Int) * 256 + (y.toNat : Int))
      have e1 : byteZ (((x.toNat : Int) * 256 + (y.toNat : Int)) / 256) = x := UInt8.toNat_inj.1 (by omega)
      have e2 : byteZ ((x.toNat : Int) * 256 + (y.toNat : Int)) = y := UInt8.toNat_inj.1 (by omega)
      unfold w16; rw [e1, e2]
    rw [e, show 4 * (n + 1) = 4 * n + 1 + 1 + 1 + 1 by omega]
    simp only [List.drop_succ_cons]
    show w16 ((a.toNat : Int) * 256 + (b.toNat : Int)) ++ w16 ((c.toNat : Int) * 256 + (d.toNat : Int)) ++ rg _ ++ _ = _
    rw [two, two, List.append_assoc, ih]; rfl
  | n + 1, [], h => by simp at h
  | n + 1, [a], h => by simp only [List.length_cons, List.length_nil] at h; omega
  | n + 1, [a, b], h => by simp only [List.length_cons, List.length_nil] at h; omega
  | n + 1, [a, b, c], h => by simp only [List.length_cons, List.length_nil] at h; omega
theorem parse_rng {l : List UInt8} (h6 : (l.getD 6 default).toNat < 16) : Rng (parse l) := by
  refine ⟨wd_bd _ _, wd_bd _ _, wd_bd _ _, h6, fun r hr => ?_⟩
  obtain ⟨i, _, rfl⟩ := List.mem_map.1 hr
  exact ⟨wd_bd _ _, wd_bd _ _⟩
theorem byteZ_nat (x : UInt8) : byteZ (x.toNat : Int) = x := by
  have := UInt8.toNat_lt x
  have := byteZ_toNat (x.toNat : Int)
  exact UInt8.toNat_inj.1 (by omega)
theorem two_w16 (x y : UInt8) : byteZ (((x.toNat : Int) * 256 + (y.toNat : Int)) / 256) = x ∧ byteZ ((x.toNat : Int) * 256 + (y.toNat : Int)) = y := by
  have hx := UInt8.toNat_lt x
  have hy := UInt8.toNat_lt y
  have h1 := byteZ_toNat (((x.toNat : Int) * 256 + (y.toNat : Int)) / 256)
  have h2 := byteZ_toNat ((x.toNat : Int) * 256 + (y.toNat : Int))
  exact ⟨UInt8.toNat_inj.1 (by omega), UInt8.toNat_inj.1 (by omega)⟩
theorem ten (l : List UInt8) (h : 10 ≤ l.length) : ∃ b0 b1 b2 b3 b4 b5 b6 b7 b8 b9 t, l = b0 :: b1 :: b2 :: b3 :: b4 :: b5 :: b6 :: b7 :: b8 :: b9 :: t := by
  rcases l with _ | ⟨b0, l⟩
  · simp only [List.length_cons, List.length_nil] at h; omega
  rcases l with _ | ⟨b1, l⟩
  · simp only [List.length_cons, List.length_nil] at h; omega
  rcases l with _ | ⟨b2, l⟩
  · simp only [List.length_cons, List.length_nil] at h; omega
  rcases l with _ | ⟨b3, l⟩
  · simp only [List.length_cons, List.length_nil] at h; omega
  rcases l with _ | ⟨b4, l⟩
  · simp only [List.length_cons, List.length_nil] at h; omega
  rcases l with _ | ⟨b5, l⟩
  · simp only [List.length_cons, List.length_nil] at h; omega
  rcases l with _ | ⟨b6, l⟩
  · simp only [List.length_cons, List.length_nil] at h; omega
  rcases l with _ | ⟨b7, l⟩
  · simp only [List.length_cons, List.length_nil] at h; omega
  rcases l with _ | ⟨b8, l⟩
  · simp only [List.length_cons, List.length_nil] at h; omega
  rcases l with _ | ⟨b9, l⟩
  · simp only [List.length_cons, List.length_nil] at h; omega
  exact ⟨_, _, _, _, _, _, _, _, _, _, _, rfl⟩
theorem dec_ok {l : List UInt8} {s : Sg} (h : dec l = (0, s)) : Rng s ∧ flt s = 0 ∧ enc s = l := by
  unfold dec at h
  by_cases h1 : l.length < 10
  · rw [if_pos h1] at h; simp at h
  rw [if_neg h1] at h
  by_cases h2 : ¬ sum (blank l) = wd l 8
  · rw [if_pos h2] at h; simp at h
  rw [if_neg h2] at h
  replace h2 := Decidable.not_not.1 h2
  by_cases h3 : 16 ≤ (l.getD 6 default).toNat ∨ l.length < dat l
  · rw [if_pos h3] at h; simp at h
  rw [if_neg h3] at h
  by_cases h4 : ¬ flt (parse l) = 0
  · rw [if_pos h4] at h; simp at h
  rw [if_neg h4] at h
  replace h4 := Decidable.not_not.1 h4
  obtain rfl : parse l = s := by simpa using h
  refine ⟨parse_rng (by omega), h4, ?_⟩
  obtain ⟨b0, b1, b2, b3, b4, b5, b6, b7, b8, b9, t, rfl⟩ := ten l (by omega)
  have hd : dat (b0 :: b1 :: b2 :: b3 :: b4 :: b5 :: b6 :: b7 :: b8 :: b9 :: t) = 10 + 4 * b7.toNat := rfl
  have ht : 4 * b7.toNat ≤ t.length := by rw [hd] at h3; simp only [List.length_cons] at h3; omega
  have hr : rgs (b0 :: b1 :: b2 :: b3 :: b4 :: b5 :: b6 :: b7 :: b8 :: b9 :: t) b7.toNat = (List.range b7.toNat).map fun i => (wd t (4 * i), wd t (4 * i + 2)) := by
    unfold rgs
    refine List.map_congr_left fun i _ => ?_
    unfold wd
    rw [show 10 + 4 * i = 4 * i + 1 + 1 + 1 + 1 + 1 + 1 + 1 + 1 + 1 + 1 by omega, show 4 * i + 1 + 1 + 1 + 1 + 1 + 1 + 1 + 1 + 1 + 1 + 2 = 4 * i + 2 + 1 + 1 + 1 + 1 + 1 + 1 + 1 + 1 + 1 + 1 by omega]
    simp only [List.getD_cons_succ]
  have hdr : (b0 :: b1 :: b2 :: b3 :: b4 :: b5 :: b6 :: b7 :: b8 :: b9 :: t).drop (10 + 4 * b7.toNat) = t.drop (4 * b7.toNat) := by
    rw [show 10 + 4 * b7.toNat = 4 * b7.toNat + 1 + 1 + 1 + 1 + 1 + 1 + 1 + 1 + 1 + 1 by omega]
    simp only [List.drop_succ_cons]
  have hp : parse (b0 :: b1 :: b2 :: b3 :: b4 :: b5 :: b6 :: b7 :: b8 :: b9 :: t) = ⟨(b0.toNat : Int) * 256 + (b1.toNat : Int), (b2.toNat : Int) * 256 + (b3.toNat : Int), (b4.toNat : Int) * 256 + (b5.toNat : Int), b6.toNat, (List.range b7.toNat).map fun i => (wd t (4 * i), wd t (4 * i + 2)), t.drop (4 * b7.toNat)⟩ := by
    rw [← hr, ← hdr]; rfl
  have hb : body (parse (b0 :: b1 :: b2 :: b3 :: b4 :: b5 :: b6 :: b7 :: b8 :: b9 :: t)) = blank (b0 :: b1 :: b2 :: b3 :: b4 :: b5 :: b6 :: b7 :: b8 :: b9 :: t) := by
    rw [hp]
    unfold body
    simp only [List.length_map, List.length_range, byteZ_nat, w16, (two_w16 _ _).1, (two_w16 _ _).2]
    rw [List.append_assoc, rg_back _ _ ht]
    rfl
  rw [enc_eq, hb, h2, hp]
  simp only [List.length_map, List.length_range, byteZ_nat, (two_w16 _ _).1, (two_w16 _ _).2]
  rw [rg_back _ _ ht]
  have h8 : wd (b0 :: b1 :: b2 :: b3 :: b4 :: b5 :: b6 :: b7 :: b8 :: b9 :: t) 8 = (b8.toNat : Int) * 256 + (b9.toNat : Int) := rfl
  rw [h8, (two_w16 _ _).1, (two_w16 _ _).2]
theorem ws_one : ∀ (l : List UInt8) (p : Nat) (v : UInt8) (o : Bool), p < l.length → ∃ k : Int, (k = 1 ∨ k = 256) ∧ inet.ws o (l.set p v) = inet.ws o l + k * ((v.toNat : Int) - ((l.getD p default).toNat : Int))
  | [], p, v, o, h => by simp at h
  | a :: l, 0, v, true, h => ⟨1, .inl rfl, by show (v.toNat : Int) + _ = (a.toNat : Int) + _ + 1 * ((v.toNat : Int) - (a.toNat : Int)); omega⟩
  | a :: l, 0, v, false, h => ⟨256, .inr rfl, by show (v.toNat : Int) * 256 + _ = (a.toNat : Int) * 256 + _ + 256 * ((v.toNat : Int) - (a.toNat : Int)); omega⟩
  | a :: l, p + 1, v, true, h => by
    obtain ⟨k, hk, e⟩ := ws_one l p v false (by simpa using h)
    refine ⟨k, hk, ?_⟩
    rw [List.getD_cons_succ]
    show (a.toNat : Int) + inet.ws false (l.set p v) = (a.toNat : Int) + inet.ws false l + _
    rw [e]; omega
  | a :: l, p + 1, v, false, h => by
    obtain ⟨k, hk, e⟩ := ws_one l p v true (by simpa using h)
    refine ⟨k, hk, ?_⟩
    rw [List.getD_cons_succ]
    show (a.toNat : Int) * 256 + inet.ws true (l.set p v) = (a.toNat : Int) * 256 + inet.ws true l + _
    rw [e]; omega
theorem sum_one {l : List UInt8} {p : Nat} {v : UInt8} (h : p < l.length) (hv : v ≠ l.getD p default) : sum (l.set p v) ≠ sum l := by
  obtain ⟨k, hk, e⟩ := ws_one l p v false h
  have h1 := UInt8.toNat_lt v
  have h2 := UInt8.toNat_lt (l.getD p default)
  have h3 : (v.toNat : Int) ≠ ((l.getD p default).toNat : Int) := fun e => hv (UInt8.toNat_inj.1 (by omega))
  have n1 := (inet.ws_bd l false).1
  have n2 := (inet.ws_bd (l.set p v) false).1
  unfold sum inet.ofold
  generalize inet.ws false (l.set p v) = A at *
  generalize inet.ws false l = B at *
  rcases hk with rfl | rfl
  · split <;> split <;> omega
  · split <;> split <;> omega
theorem getD_set {l : List UInt8} {p i : Nat} {v : UInt8} (h : p < l.length) : (l.set p v).getD i default = if i = p then v else l.getD i default := by
  rw [List.getD_eq_getElem?_getD, List.getD_eq_getElem?_getD, List.getElem?_set]
  by_cases e : i = p
  · subst e; rw [if_pos rfl, if_pos rfl, if_pos h]; rfl
  · rw [if_neg (Ne.symm e), if_neg e]
theorem dec_seen {s : Sg} {p : Nat} {v : UInt8} (hp : p < (enc s).length) (hv : v ≠ (enc s).getD p default) : dec ((enc s).set p v) = (6, default) := by
  have hl := enc_len s
  have hs := sum_bd (body s)
  have e8 : wd (enc s) 8 = sum (body s) := by rw [enc_eq]; exact wd_w16 _ ⟨hs.1, by omega⟩
  have key : ¬ sum (blank ((enc s).set p v)) = wd ((enc s).set p v) 8 := by
    have c8 : blank ((enc s).set p v) = if p = 8 ∨ p = 9 then body s else (body s).set p v := by
      rw [← blank_enc]
      unfold blank
      by_cases h : p = 8 ∨ p = 9
      · rw [if_pos h]
        rcases h with rfl | rfl
        · rw [List.set_set]
        · rw [List.set_comm _ _ (by decide : (9 : Nat) ≠ 8), List.set_set]
      · rw [if_neg h, List.set_comm _ _ (by omega : p ≠ 8), List.set_comm _ _ (by omega : p ≠ 9)]
    have cw : wd ((enc s).set p v) 8 = ((if 8 = p then v else (enc s).getD 8 default).toNat : Int) * 256 + ((if 9 = p then v else (enc s).getD 9 default).toNat : Int) := by
      unfold wd; rw [getD_set hp, getD_set hp]
    rw [c8, cw]
    have h8 := UInt8.toNat_lt ((enc s).getD 8 default)
    have h9 := UInt8.toNat_lt ((enc s).getD 9 default)
    have hv2 := UInt8.toNat_lt v
    have hne : v.toNat ≠ ((enc s).getD p default).toNat := fun e => hv (UInt8.toNat_inj.1 e)
    have e8' : ((enc s).getD 8 default).toNat * (256 : Int) + ((enc s).getD 9 default).toNat = sum (body s) := e8
    by_cases h : p = 8 ∨ p = 9
    · rw [if_pos h]
      rcases h with rfl | rfl
      · rw [if_pos rfl, if_neg (by decide)]; omega
      · rw [if_neg (by decide), if_pos rfl]; omega
    · rw [if_neg h, if_neg (by omega), if_neg (by omega), e8']
      refine sum_one (by rw [body_len]; omega) ?_
      have : (body s).getD p default = (enc s).getD p default := by
        rw [← blank_enc]
        unfold blank
        rw [getD_set (by rw [List.length_set]; omega), getD_set (by omega), if_neg (by omega), if_neg (by omega)]
      rw [this]; exact hv
  unfold dec
  rw [List.length_set, if_neg (by omega), if_pos key]
end seg
end Go.Proofs.Ytfahoengenbgcaa
