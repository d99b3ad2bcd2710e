/- Layer 15: several schedules for several demands. -/
import Derived.Test.YtgcpocaaepoafaaS15e
set_option linter.unusedVariables false
set_option linter.unusedSimpArgs false
set_option linter.unusedSectionVars false
namespace Go.Q
open Go
def encDem (d : Demand) : List Value := (demA d).toList
def serveAll (n : Net) : List Hd → List Demand → Int
  | h :: hs, d :: ds => if serves n h.l d = 0 then serveAll n hs ds else serves n h.l d
  | _, _ => 0
def shared (n : Net) (ls : List Hd) (ds : List Demand) : Int :=
  if rights n ls ≠ 0 then rights n ls else if netCheck n ≠ 0 then netCheck n else if (ls.length : Int) ≠ ds.length then 1
  else if (join n ls).2 ≠ 0 then (join n ls).2 else if fits n (join n ls).1 ≠ 0 then fits n (join n ls).1 else serveAll n ls ds
variable {n : Net} {ls : List Hd} {ds : List Demand}
theorem shared_rights (h : rights n ls ≠ 0) : shared n ls ds = rights n ls := by rw [shared, if_pos h]
theorem shared_check (h : rights n ls = 0) (h1 : netCheck n ≠ 0) : shared n ls ds = netCheck n := by rw [shared, if_neg (by omega), if_pos h1]
theorem shared_len (h : rights n ls = 0) (h1 : ¬ netCheck n ≠ 0) (h2 : (ls.length : Int) ≠ ds.length) : shared n ls ds = 1 := by rw [shared, if_neg (by omega), if_neg h1, if_pos h2]
theorem shared_join (h : rights n ls = 0) (h1 : ¬ netCheck n ≠ 0) (h2 : ¬ (ls.length : Int) ≠ ds.length) (h3 : (join n ls).2 ≠ 0) : shared n ls ds = (join n ls).2 := by rw [shared, if_neg (by omega), if_neg h1, if_neg h2, if_pos h3]
/-- the state of the last loop: the error so far, and what is left -/
def SharedAt (n : Net) (ls : List Hd) (ds : List Demand) (k : Nat) (e : Int) : Prop := (e ≠ 0 → shared n ls ds = e) ∧ (e = 0 → shared n ls ds = serveAll n (ls.drop k) (ds.drop k))
theorem sharedAt_join (h : rights n ls = 0) (h1 : ¬ netCheck n ≠ 0) (h2 : ¬ (ls.length : Int) ≠ ds.length) (h3 : ¬ (join n ls).2 = 0) : SharedAt n ls ds 0 (join n ls).2 := ⟨fun _ => shared_join h h1 h2 h3, fun h => absurd h h3⟩
theorem sharedAt_fits (h : rights n ls = 0) (h1 : ¬ netCheck n ≠ 0) (h2 : ¬ (ls.length : Int) ≠ ds.length) (h3 : (join n ls).2 = 0) : SharedAt n ls ds 0 (fits n (join n ls).1) := by
  constructor
  · intro h4; rw [shared, if_neg (by omega), if_neg h1, if_neg h2, if_neg (by omega), if_pos h4]
  · intro h4; rw [shared, if_neg (by omega), if_neg h1, if_neg h2, if_neg (by omega), if_neg (by omega)]; rfl
theorem sharedAt_step {k : Nat} {e : Int} {h : Hd} {d : Demand} (hs : SharedAt n ls ds k e) (he : e = 0) (hk : ls[k]? = some h) (hd : ds[k]? = some d) : SharedAt n ls ds (k + 1) (serves n h.l d) := by
  have h1 := hs.2 he
  rw [drop_of hk, drop_of hd, serveAll] at h1
  constructor
  · intro h2; rw [h1, if_neg h2]
  · intro h2; rw [h1, if_pos h2]
theorem sharedAt_end {k : Nat} {e : Int} (hs : SharedAt n ls ds k e) (h : ¬ (k : Int) < ls.length ∨ ¬ e = 0) : shared n ls ds = e := by
  by_cases he : e = 0
  · rw [hs.2 he, List.drop_eq_nil_of_le (by omega)]; simp [serveAll, he]
  · exact hs.1 he
end Go.Q
