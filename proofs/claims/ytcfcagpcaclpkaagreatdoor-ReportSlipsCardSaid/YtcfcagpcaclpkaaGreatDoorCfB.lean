/-
  WHAT IS TO BE SHOWN OF A STRETCH OF CODE: names for stretches of a program's code. Conditions: none.
-/
import Derived.Test.YtcfcagpcaclpkaaGreatDoorCfA
import Derived.KernelRfl
namespace Go.Ce
open Go Go.RowKit
def subC : List Nat → Code → Code
  | [], c => c
  | i :: l, .seq a b => subC l (match i with
    | 0 => a
    | _ => b)
  | i :: l, .cond _ a b => subC l (match i with
    | 0 => a
    | _ => b)
  | _ :: l, .block _ b => subC l b
  | _ :: l, .loop b => subC l b
  | _ :: _, c => c
def codeOf (P : Program) (f : Nat) : Code := match P.funcs[f]? with
  | some fn => fn.body.getD .skip
  | none => .skip
def resOf (P : Program) (f : Nat) : List ResultVar := match P.funcs[f]? with
  | some fn => fn.results.toList
  | none => []
def bodied (P : Program) (f k n : Nat) : Bool := match P.funcs[f]? with
  | some fn => fn.body.isSome && Nat.beq n (Nat.max fn.ntmps k) && Nat.blt n 1000000
  | none => false
theorem F.code {P : Program} {w0 : World} {f : Nat} {vs : List CV} {A : AW} {Q : CV → AW → Prop} (n : Nat) (h0 : bodied P f vs.length n = true)
    (h : WF P w0 (resOf P f) (codeOf P f) n (frOf 0 vs .e) A Q) : F P w0 f vs A Q := by
  unfold bodied at h0
  split at h0
  · rename_i fn hf
    simp only [Bool.and_eq_true, beqN_iff] at h0
    obtain ⟨⟨h1, h2⟩, h3⟩ := h0
    obtain ⟨c, hc⟩ := Option.isSome_iff_exists.1 h1
    refine F.body hf hc (rs := resOf P f) (by simp only [resOf, hf]) h2 h3 ?_
    have : codeOf P f = c := by simp only [codeOf, hf, hc, Option.getD_some]
    rw [this] at h
    exact h
  · cases h0
theorem forPost_ret {P : Program} {rs : List ResultVar} {Q : CV → AW → Prop} {id : Nat} {R : Nat → T CV → AW → Prop} {m : Nat} {f : St → Prop} {st : St} (h : endF P rs Q .ret st) : forPost id R m (onNormal f (endF P rs Q)) .ret st := h
theorem forPost_exit {id : Nat} {R : Nat → T CV → AW → Prop} {m : Nat} {f : St → Prop} {K : Ex → St → Prop} {st : St} (h : f st) : forPost id R m (onNormal f K) (.exit id) st := by
  have : Nat.beq id id = true := Nat.beq_refl id
  simp only [forPost, this, cond_true]
  exact h
theorem endF_one {P : Program} {rs : List ResultVar} {a : Nat} (hr : rs = [.tmp a]) {fr : T CV} {A : AW} {Q : CV → AW → Prop} {v : CV} (h : Fr fr [(a, v)]) (hQ : Q v A) {e : Ex} (he : e = .ret ∨ e = .normal) : endF P rs Q e ⟨fr, A⟩ := by
  subst hr
  rcases he with rfl | rfl <;> simp only [endF, vcRes, h.1, withV, tupA] <;> exact hQ
theorem endF_two {P : Program} {rs : List ResultVar} {a b : Nat} (hr : rs = [.tmp a, .tmp b]) {fr : T CV} {A : AW} {Q : CV → AW → Prop} {v w : CV} (h : Fr fr [(a, v), (b, w)]) (hQ : Q (.t [v, w]) A) {e : Ex} (he : e = .ret ∨ e = .normal) : endF P rs Q e ⟨fr, A⟩ := by
  subst hr
  rcases he with rfl | rfl <;> simp only [endF, vcRes, h.1, h.2.1, withV, tupA] <;> exact hQ
end Go.Ce
