/-
  PLAIN LAWS of who serves, over whole lists of requests.
-/
import Derived.Test.YtmceappjldcbmaaGreatDoorServeL
namespace Go.Proofs.YtmceappjldcbmaaGreatDoor
set_option linter.unusedVariables false
set_option linter.unusedSimpArgs false
namespace serve
open tree path msg
theorem getD_app_right {α : Type} [Inhabited α] (l m : List α) (i : Nat) (h : l.length ≤ i) : (l ++ m).getD i default = m.getD (i - l.length) default := by
  rw [List.getD_eq_getElem?_getD, List.getElem?_append_right h, List.getD_eq_getElem?_getD]
theorem openR_ok {p : Nm} {how : Int} (hp : p.length ≤ 1000000) (h0 : 0 ≤ how) (h1 : how ≤ 31) : RqOk (openR p how) := ⟨hp, Nat.zero_le _, Nat.zero_le _, h0, h1⟩
theorem plain_ok {r : Rq} (h1 : r.path = []) (h2 : r.to_ = []) (h3 : r.data.length ≤ 1000000) (h4 : r.how = 0) : RqOk r := ⟨by rw [h1]; exact Nat.zero_le _, by rw [h2]; exact Nat.zero_le _, h3, by rw [h4]; decide, by rw [h4]; decide⟩
theorem readR_ok (h k n : Int) : RqOk (readR h k n) := plain_ok rfl rfl (Nat.zero_le _) rfl
theorem writeR_ok (h k : Int) (d : List UInt8) (hd : d.length ≤ 1000000) : RqOk (writeR h k d) := plain_ok rfl rfl hd rfl
/-- who asks for an old handle, at the end -/
def oldT (h : Int) (K : Nat) : List Rq := [shutR h] ++ List.replicate K (openR zzP 7) ++ [readR h 0 1, shutR h]
/-- room for handles -/
def shuts (n : Nat) : List Rq := (List.range n).map fun i : Nat => shutR (i : Int)
end serve
end Go.Proofs.YtmceappjldcbmaaGreatDoor
