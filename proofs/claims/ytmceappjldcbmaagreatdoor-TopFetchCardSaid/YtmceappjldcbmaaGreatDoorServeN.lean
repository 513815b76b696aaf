/-
  More requests in a row of requests, with their data; the replies as plain ones.
-/
import Derived.Test.YtmceappjldcbmaaGreatDoorServeD
import Derived.Test.YtmceappjldcbmaaGreatDoorServeV
namespace Go.Proofs.YtmceappjldcbmaaGreatDoor
open Go.RowKit
set_option linter.unusedVariables false
set_option linter.unusedSimpArgs false
namespace serve
open tree path msg
/-- more requests, with no data or with these -/
theorem Holds.rdMore {w0 w : World} {rs : List Res} {A : List Ms} (M : List Ms) {d : Option Addr} {n c : Nat} {b : List UInt8} (hM : ∀ x ∈ M, dM x = ⟨none, 0, 0, []⟩ ∨ dM x = ⟨d, n, c, b⟩) (H : Holds w0 w (.sl d n c 1 (flat eB b) :: .per (Rd eB 1 (A.map dM)) :: rs)) : Holds w0 w (.per (Rd eB 1 ((A ++ M).map dM)) :: rs) :=
  H.join fun f a o h1 h2 _ => fun z hz => by
    rw [List.map_append] at hz
    rcases List.mem_append.1 hz with hz | hz
    · exact h2 z hz
    · obtain ⟨x, hx, rfl⟩ := List.mem_map.1 hz
      rcases hM x hx with e | e
      · rw [e]
        exact ⟨rfl, fun u hu => (nomatch hu), Nat.le_refl _, Nat.zero_le _, fun _ => rfl, fun h => absurd h (Nat.lt_irrefl 0)⟩
      · rw [e]; exact h1
def msN (r : Rq) : Ms := ⟨r, none, 0, 0⟩
theorem rd_at {S : List RpM} {l : List Rp} (h : S.map (·.x) = l) {i : Nat} (hi : i < S.length) : (S.getD i default).x = l.getD i default := by
  rw [← h]; exact (getD_map _ _ _ hi).symm
end serve
end Go.Proofs.YtmceappjldcbmaaGreatDoor
