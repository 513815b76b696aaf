/-
  THE KIT OF MY OWN, THIRTY-FOURTH PART: ranges over functions whose body may return. Over any program; no condition.
-/
import Derived.Test.YtjfdpfjngajnlaaDoorKit24
namespace Go.Proofs.YtjfdpfjngajnlaaDoor
open Go.RowKit Go.Sort
set_option linter.unusedVariables false
set_option linter.unusedSimpArgs false
/-- the loop's record when its body has returned -/
def outOf (rec : Loop) : Loop := { rec with state := .done, pending := some .ret }
section
variable {P : Program} {ops : Array Oper} {Q : Exit → Act → World → Prop} {n : Nat} {ds : List Deferred} {w0 : World} {rest : List Oper} {fr : Slots} {rs rs' : List Res} {l : Nat}
def RPost (l : Nat) (rec : Loop) (post stop : List Res → Prop) (v : Value) (give : List Res) : Prop :=
  (v = .bool true ∧ ∃ g, post g ∧ give = .own (LoopR l rec) :: g) ∨ (v = .bool false ∧ ∃ g, stop g ∧ give = .own (LoopR l (outOf rec)) :: g)
def RP2 (l : Nat) (rec : Loop) (w0 : World) (rest : List Res) (post stop : List Res → Prop) : Ending → World → Prop :=
  fun e w' => ∃ v give, RPost l rec post stop v give ∧ e = .returned v ∧ Holds w0 w' (give ++ rest)
theorem YSpec.one {rec : Loop} {p : Tmp} {u : Value} {need : List Res} {post stop : List Res → Prop} (hps : rec.params = #[p]) (hfr : Fr [] ⟨rec.tmps, []⟩ n fr) (hp : Nat.blt p n = true)
    (h : ∀ w0 rest rs, rs = need ++ rest → @GRC l P rec.assign (Beg P l rec.body (RP2 l rec w0 rest post stop)) n [] w0 ((p, u) :: fr) (.own (LoopR l rec) :: rs)) :
    YSpec P l [u] (.own (LoopR l rec) :: need) (RPost l rec post stop) := by
  intro w0 rest w H
  have hb := loop_blk H
  have hf2 := hfr.put hp u
  refine ⟨rec.fn, rec.tmps.setIfInBounds p u, rec.assign, rec.body, ?_, ?_⟩
  · simp [Instr.yield, Sem.run_bind, getLoop_run hb, hps]
  · exact roundIn_of_wpIn (F := Fence.wide) (n := 0) trivial (h w0 rest _ rfl _ w hf2 H)
theorem hold_subs {w w0 : World} {give rest rl : List Res} (h : Holds w0 w (give ++ rl)) (hsub : Subs rest rl) : Holds w0 w (give ++ rest) := subs_app hsub h
theorem GE.endR2 {rec : Loop} {rest : List Res} {post stop : List Res → Prop} {g rl : List Res} (hs : rec.state = .ready) (hpn : rec.pending = none) (hg : post g) (ht : Takes rs (.own (LoopR l { rec with state := .busy }) :: g) rl) (hsub : Subs rest rl) :
    @GE (roundPost P l (RP2 l rec w0 rest post stop)) .normal n ds w0 fr rs := fun a w hf hw => by
  have h1 := hw.take ht
  have hb := loop_blk h1
  refine ⟨_, _, end_run hb, .bool true, .own (LoopR l rec) :: g, .inl ⟨rfl, g, hg, rfl⟩, rfl, ?_⟩
  have h2 := h1.setLoop (r' := { rec with state := .ready, pending := none })
  have e : ({ rec with state := .ready, pending := none } : Loop) = rec := by cases rec; simp at hs hpn; simp [hs, hpn]
  simp only at h2 ⊢
  rw [e] at h2 ⊢
  exact hold_subs (give := .own (LoopR l rec) :: g) h2 hsub
theorem endRet_run {w : World} {r : Loop} (h : w.heap[l]? = some (.loop r)) : (Instr.endRound l (some .ret)).run P w = .ok (.bool false) { w with heap := w.heap.setIfInBounds l (.loop { r with state := .done, pending := some .ret }) } := by
  simp [Instr.endRound, Sem.run_bind, getLoop_run h, setL_run h]
theorem GE.endRet {rec : Loop} {rest : List Res} {post stop : List Res → Prop} {g rl : List Res} (hg : stop g) (ht : Takes rs (.own (LoopR l { rec with state := .busy }) :: g) rl) (hsub : Subs rest rl) :
    @GE (roundPost P l (RP2 l rec w0 rest post stop)) .ret n ds w0 fr rs := fun a w hf hw => by
  have h1 := hw.take ht
  have hb := loop_blk h1
  refine ⟨_, _, endRet_run hb, .bool false, .own (LoopR l (outOf rec)) :: g, .inr ⟨rfl, g, hg, rfl⟩, rfl, ?_⟩
  have h2 := h1.setLoop (r' := outOf rec)
  exact hold_subs (give := .own (LoopR l (outOf rec)) :: g) h2 hsub
theorem GRC.ret (h : @GE Q .ret n ds w0 fr rs) : @GRC l P .ret Q n ds w0 fr rs := fun a w hf hw => wpIn_ret (h a w hf hw)
theorem endLoop_run2 {w : World} {r : Loop} (h : w.heap[l]? = some (.loop r)) (hs : r.state ≠ .busy) : (Instr.endLoop l).run P w = .ok r.pending { w with heap := w.heap.setIfInBounds l (.loop { r with state := .exhausted }) } := by
  have hb : (r.state == .busy) = false := by
    cases e : r.state with
    | busy => exact absurd e hs
    | ready => rfl
    | done => rfl
    | exhausted => rfl
  simp [Instr.endLoop, Sem.run_bind, getLoop_run h, setL_run h, hb]
  exact fun e => absurd e hs
theorem GC.rangeFunc2 {g : Operand} {ps : Array Tmp} {assign body : Code} {f : FuncId} {caps : List Value} {need rl : List Res} {post stop : Value → List Res → Prop} [hF : Fun P f] (hg : ev fr g = some (.func (.func f) #[] caps.toArray))
    (S : ∀ l rec, rec.state = .ready → rec.pending = none → rec.params = ps → rec.assign = assign → rec.body = body → Fr [] ⟨rec.tmps, []⟩ n fr → Spec P f (.func (.yield l) #[] #[] :: caps) (.own (LoopR l rec) :: need) (fun v give => (∃ g, post v g ∧ give = .own (LoopR l rec) :: g) ∨ (∃ g, stop v g ∧ give = .own (LoopR l (outOf rec)) :: g)))
    (ht : Takes rs need rl)
    (k : ∀ D v g, post v g → ∀ rs', rs' = .own (DefR D) :: (g ++ rl) → @GE Q .normal n [⟨.collected D, #[]⟩] w0 fr rs')
    (k2 : ∀ D v g, stop v g → ∀ rs', rs' = .own (DefR D) :: (g ++ rl) → @GE Q .ret n [⟨.collected D, #[]⟩] w0 fr rs') : @GC P (.rangeFunc g ps assign body) Q n [] w0 fr rs := by
  intro a w hf hw
  refine (wpIn_wide (n := 0)).1 (wpIn_rangeFunc fun fn _ => ?_)
  obtain ⟨fu, h1, h2, h3⟩ := hF.fn
  have h2' : ¬ (fu.name = "runtime.NumGoroutine") := by simpa using h2
  have h3' : fu.body ≠ none := by intro e; rw [e] at h3; simp at h3
  have hg' := hf.ev hg
  let A := w.alloc (.deferred (some []))
  let rec_ : Loop := { state := .ready, pending := none, fn, tmps := a.tmps, params := ps, assign, body, defers := w.heap.size }
  let B := A.alloc (.loop rec_)
  have hA : Holds w0 A (.own (DefR w.heap.size) :: rs) := hw.add rfl rfl rfl (by simp [A]) (fun k hk => Below.heap_alloc _ _ _ hk) (Hp.one w.heap.size (.deferred (some []))) (Hp.one_le (heap_alloc_new w _)) (fun k hk => Hp.one_ne _ (by omega)) (fun f _ => Hp.one_self _ _)
  have hB : Holds w0 B (.own (LoopR A.heap.size rec_) :: .own (DefR w.heap.size) :: rs) := hA.add rfl rfl rfl (by simp [B]) (fun k hk => Below.heap_alloc _ _ _ hk) (Hp.one A.heap.size (.loop rec_)) (Hp.one_le (heap_alloc_new A _)) (fun k hk => Hp.one_ne _ (by omega)) (fun f _ => Hp.one_self _ _)
  refine ⟨A.heap.size, [⟨.collected w.heap.size, #[]⟩], B, ⟨.fn (.func f) caps.toArray, #[.func (.yield A.heap.size) #[] #[]]⟩, B, f, (.func (.yield A.heap.size) #[] #[] :: caps).toArray, B, ?_, ?_, fun _ _ => trivial, ?_, fun h => (nomatch h), callsIn_wide.2 ?_⟩
  · rfl
  · simp only [resolve, rangeCall, hg', Deferred.ofValue]
    have e : (#[] : Array Value) ++ Array.map a.eval #[.const (.func (.yield A.heap.size) #[] #[])] = #[.func (.yield A.heap.size) #[] #[]] := by simp [Act.eval]
    rw [e]; rfl
  · simp [invoke, callFunc, h1, h2', h3']
  · have hfr : Fr [] ⟨rec_.tmps, []⟩ n fr := ⟨⟨hf.size, hf.has⟩, rfl⟩
    have hp : Holds w0 B ((.own (LoopR A.heap.size rec_) :: need) ++ (.own (DefR w.heap.size) :: rl)) := by
      have h5 : Holds w0 B (.own (LoopR A.heap.size rec_) :: .own (DefR w.heap.size) :: (need ++ rl)) := Holds.take' ht [_, _] hB
      exact h5.perm (List.Perm.cons _ (List.perm_middle.symm))
    refine (S A.heap.size rec_ rfl rfl rfl rfl rfl hfr w0 _ B hp).mono ?_
    rintro e w' ⟨v, give, hgv, rfl, hh⟩
    rcases hgv with ⟨g, hpost, rfl⟩ | ⟨g, hstop, rfl⟩
    · refine ⟨none, _, endLoop_run (loop_blk hh) rfl, ?_⟩
      have h6 := hh.setLoop (r' := { rec_ with state := .exhausted })
      have h7 := Holds.perm (rs' := .own (DefR w.heap.size) :: (g ++ rl)) h6.tail List.perm_middle
      refine k w.heap.size v g hpost _ rfl _ _ ⟨⟨hf.size, hf.has⟩, ?_⟩ h7
      show _ ++ a.defers = _
      rw [hf.defers]; rfl
    · refine ⟨some .ret, _, endLoop_run2 (r := outOf rec_) (loop_blk hh) (fun h => nomatch h), ?_⟩
      have h6 := hh.setLoop (r' := { outOf rec_ with state := .exhausted })
      have h7 := Holds.perm (rs' := .own (DefR w.heap.size) :: (g ++ rl)) h6.tail List.perm_middle
      refine wpIn_ret (k2 w.heap.size v g hstop _ rfl _ _ ⟨⟨hf.size, hf.has⟩, ?_⟩ h7)
      show _ ++ a.defers = _
      rw [hf.defers]; rfl
end
end Go.Proofs.YtjfdpfjngajnlaaDoor
