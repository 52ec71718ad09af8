/-
  The conditions of the closed evaluator, decided over a program.
-/
import Derived.Test.YtcfcagpcaclpkaaGreatDoorCeV
namespace Go.Ce
open Go Go.RowKit
def okB : Option Res → Bool
  | some (.val (.b true) _) => true
  | _ => false
theorem okB_elim {r : Option Res} (h : okB r = true) : ∃ A, r = some (.val (.b true) A) := by
  unfold okB at h
  split at h
  · exact ⟨_, rfl⟩
  · cases h
def extB (P : Program) (f : Nat) (e : Ext) : Bool := match P.funcs[f]? with
  | some fn => !(fn.name == "runtime.NumGoroutine") && fn.body.isNone
  | none => false
def numB : List Func → Bool
  | [] => true
  | fn :: l => (!fn.body.isSome || !(fn.name == "runtime.NumGoroutine")) && numB l
theorem numB_ok {l : List Func} (h : numB l = true) : ∀ fn ∈ l, fn.body.isSome = true → (fn.name == "runtime.NumGoroutine") = false := by
  induction l with
  | nil => intro fn hf; cases hf
  | cons a l ih =>
    simp only [numB, Bool.and_eq_true, Bool.or_eq_true] at h
    intro fn hf hb
    rcases List.mem_cons.1 hf with rfl | hf
    · rcases h.1 with h1 | h1
      · rw [hb] at h1; cases h1
      · simpa using h1
    · exact ih h.2 fn hf hb
theorem numOK_of {P : Program} (h : numB P.funcs.toList = true) : NumOK P := fun f fn hf hb =>
  numB_ok h fn (by
    have := Array.mem_of_getElem? hf
    simpa using this) hb
end Go.Ce
