/-
  pollardlaw31.wakes comes out true. Conditions: none.
-/
import Derived.Test.YtcfcagpcaclpkaaGreatDoorR31A
set_option maxRecDepth 100000
namespace Go.Proofs.R31
open Go Go.Ce
/-- A closed call comes out true. -/
def saysTrue (P : Program) (ex : List (Nat × Ext)) (fuel f : Nat) : Bool := match ev P ex fuel (.call f [] ⟨0, .e⟩) with
  | some (.val (.b t) _) => t
  | _ => false
theorem saysTrue_ok {P : Program} {ex : List (Nat × Ext)} {fuel f : Nat} (h : saysTrue P ex fuel f = true) : ∃ A', ev P ex fuel (.call f [] ⟨0, .e⟩) = some (.val (.b true) A') := by
  unfold saysTrue at h
  split at h
  · rename_i t A' he
    subst h
    exact ⟨A', he⟩
  · cases h
theorem wakes_ev : saysTrue Tryz.prog exts 5000 5 = true := by kernel_rfl
end Go.Proofs.R31
