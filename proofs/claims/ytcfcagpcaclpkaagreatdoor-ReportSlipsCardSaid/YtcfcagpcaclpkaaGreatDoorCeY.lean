/-
  WHAT IS TO BE SHOWN OF A STRETCH OF CODE, as a proposition that is reckoned from the code ('vcC'), and that it suffices. Conditions: none.
-/
import Derived.Test.YtcfcagpcaclpkaaGreatDoorCeX
namespace Go.Ce
open Go Go.RowKit

def AW.push (A : AW) (ob : AObj) : AW := { next := A.next + 1, heap := A.heap.up A.next (some ob) }
theorem AW.new_push (A : AW) (ob : AObj) : A.new ob = some (A.push ob) := by unfold AW.new; rw [forceNat_eq]; rfl

/-! ### Operations on values in the place of operands -/
def optVal (fr : T CV) : Option Operand → Option (Option CV)
  | none => some none
  | some x => match opVal fr x with
    | some v => some (some v)
    | none => none
def boundV (x : Option CV) (d : Nat) : Option Nat := match x with
  | none => some d
  | some v => idxOf v
def partVals (fr : T CV) : List (Nat × Operand) → Option (List (Nat × CV))
  | [] => some []
  | (i, x) :: l => match opVal fr x, partVals fr l with
    | some v, some r => some ((i, v) :: r)
    | _, _ => none
def fillV (place : Nat → Option (Nat × Nat)) : List CV → List (Nat × CV) → Option (List CV)
  | cs, [] => some cs
  | cs, (i, v) :: rest => match place i with
    | some (off, size) => cond (Nat.beq (lenN v.cells) size && !Nat.beq size 0) (match setL cs off v.cells with
      | some cs' => fillV place cs' rest
      | none => none) none
    | none => none
theorem fillV_eq {place : Nat → Option (Nat × Nat)} {fr : T CV} : ∀ {parts : List (Nat × Operand)} {ps : List (Nat × CV)} {cs : List CV}, partVals fr parts = some ps → fillA place fr cs parts = fillV place cs ps
  | [], ps, cs, h => by simp only [partVals, Option.some.injEq] at h; subst h; rfl
  | (i, x) :: l, ps, cs, h => by
    simp only [partVals] at h
    cases h1 : opVal fr x with
    | none => simp [h1] at h
    | some v =>
      cases h2 : partVals fr l with
      | none => simp [h1, h2] at h
      | some r =>
        simp only [h1, h2, Option.some.injEq] at h
        subst h
        simp only [fillA, fillV, h1]
        cases hp : place i with
        | none => rfl
        | some p =>
          obtain ⟨off, size⟩ := p
          simp only
          cases (Nat.beq (lenN v.cells) size && !Nat.beq size 0) with
          | false => rfl
          | true =>
            simp only [cond_true]
            cases setL cs off v.cells with
            | none => rfl
            | some cs' => exact fillV_eq h2
section
variable (P : Program)
def buildV (t : TypeId) (ps : List (Nat × CV)) : Option CV := match zeroA P t, P.underlying t with
  | some z, some (.struct fs) => match placesOf P fs.toList with
    | some pl => match fillV (fun i => getN pl i) z.cells ps with
      | some cs => some (.a cs)
      | none => none
    | none => none
  | some z, some (.array _ e) => match sizeP P e with
    | some sz => match fillV (fun i => some (i * sz, sz)) z.cells ps with
      | some cs => some (.a cs)
      | none => none
    | none => none
  | _, _ => none
theorem buildV_eq {fr : T CV} {t : TypeId} {parts : List (Nat × Operand)} {ps : List (Nat × CV)} (h : partVals fr parts = some ps) : buildA P t fr parts = buildV P t ps := by
  unfold buildA buildV
  cases zeroA P t with
  | none => rfl
  | some z =>
    cases P.underlying t with
    | none => rfl
    | some d =>
      cases d <;> try rfl
      · simp only
        cases sizeP P _ with
        | none => rfl
        | some sz => simp only; rw [fillV_eq h]; rfl
      · simp only
        cases placesOf P _ with
        | none => rfl
        | some pl => simp only; rw [fillV_eq h]; rfl
def sliceV (A : AW) (t : TypeId) (x : CV) (lo hi mx : Option CV) : Option CV := match P.underlying t, x, mx with
  | some .string, .s l, none => match boundV lo 0, boundV hi (lenN l) with
    | some lo, some hi => cond (Nat.ble lo hi && Nat.ble hi (lenN l)) (match subN l lo (hi - lo) with
      | some m => some (.s m)
      | none => none) none
    | _, _ => none
  | some (.slice e), .ns, none => match boundV lo 0, boundV hi 0, sizeP P e with
    | some lo, some hi, some _ => cond (Nat.beq lo 0 && Nat.beq hi 0) (some .ns) none
    | _, _, _ => none
  | some (.slice e), .sl b n k, none => match boundV lo 0, boundV hi n, A.heap.get b, sizeP P e with
    | some lo, some hi, some ob, some sz => cond (Nat.ble lo hi && Nat.ble hi n && Nat.beq ob.esz sz) (cond (Nat.beq lo 0 || Nat.blt lo n) (some (.sl b (hi - lo) (k + lo))) (some (.so b k (k + lo)))) none
    | _, _, _, _ => none
  | some (.slice e), .so b k0 k, none => match boundV lo 0, boundV hi 0, sizeP P e with
    | some lo, some hi, some _ => cond (Nat.beq lo 0 && Nat.beq hi 0) (some (.so b k0 k)) none
    | _, _, _ => none
  | some (.slice e), .se b o n c, none => match boundV lo 0, boundV hi n, sizeP P e with
    | some lo, some hi, some sz => cond (Nat.ble lo hi && Nat.ble hi c) (some (.se b (cond (Nat.beq c lo) o (o + lo * sz)) (hi - lo) (c - lo))) none
    | _, _, _ => none
  | some (.slice e), .se b o _ c, some mx => match boundV lo 0, boundV hi 0, boundV (some mx) 0, sizeP P e, hi with
    | some lo, some h, some m, some sz, some _ => cond (Nat.ble lo h && Nat.ble h m && Nat.ble m c) (some (.se b (cond (Nat.beq m lo) o (o + lo * sz)) (h - lo) (m - lo))) none
    | _, _, _, _, _ => none
  | some (.array n e), .p b o, none => match boundV lo 0, boundV hi n, sizeP P e with
    | some lo, some hi, some sz => cond (Nat.ble lo hi && Nat.ble hi n) (some (.se b (cond (Nat.beq n lo) o (o + lo * sz)) (hi - lo) (n - lo))) none
    | _, _, _ => none
  | _, _, _ => none
theorem boundV_eq {fr : T CV} {x : Option Operand} {v : Option CV} (h : optVal fr x = some v) (d : Nat) : boundA fr x d = boundV v d := by
  cases x with
  | none => simp only [optVal, Option.some.injEq] at h; subst h; rfl
  | some o =>
    simp only [optVal] at h
    cases ho : opVal fr o with
    | none => simp [ho] at h
    | some c =>
      simp only [ho, Option.some.injEq] at h
      subst h
      simp only [boundA, boundV, ho]
theorem optVal_none {fr : T CV} {x : Option Operand} (h : optVal fr x = some none) : x = none := by
  cases x with
  | none => rfl
  | some o => simp only [optVal] at h; split at h <;> simp at h
theorem optVal_some {fr : T CV} {x : Option Operand} {v : CV} (h : optVal fr x = some (some v)) : ∃ o, x = some o := by
  cases x with
  | none => simp [optVal] at h
  | some o => exact ⟨o, rfl⟩
theorem sliceV_eq {fr : T CV} {A : AW} {t : TypeId} {x v : CV} {lo hi mx : Option Operand} {l h m : Option CV} (h1 : optVal fr lo = some l) (h2 : optVal fr hi = some h) (h3 : optVal fr mx = some m) (hv : sliceV P A t x l h m = some v) : sliceA P A t x fr lo hi mx = some v := by
  unfold sliceV at hv
  split at hv
  · rename_i hu; obtain rfl := optVal_none h3
    simp only [sliceA, hu, boundV_eq h1, boundV_eq h2]; exact hv
  · rename_i hu; obtain rfl := optVal_none h3
    simp only [sliceA, hu, boundV_eq h1, boundV_eq h2]; exact hv
  · rename_i hu; obtain rfl := optVal_none h3
    simp only [sliceA, hu, boundV_eq h1, boundV_eq h2]; exact hv
  · rename_i hu; obtain rfl := optVal_none h3
    simp only [sliceA, hu, boundV_eq h1, boundV_eq h2]; exact hv
  · rename_i hu; obtain rfl := optVal_none h3
    simp only [sliceA, hu, boundV_eq h1, boundV_eq h2]; exact hv
  · rename_i hu
    obtain ⟨o, rfl⟩ := optVal_some h3
    simp only [sliceA, hu, boundV_eq h1, boundV_eq h2, boundV_eq h3]
    cases h with
    | none => split at hv <;> simp_all
    | some c =>
      obtain ⟨q, rfl⟩ := optVal_some h2
      split at hv
      · rename_i g1 g2 g3 g4 g5
        simp only [g1, g2, g3, g4]
        exact hv
      · cases hv
  · rename_i hu; obtain rfl := optVal_none h3
    simp only [sliceA, hu, boundV_eq h1, boundV_eq h2]; exact hv
  · cases hv
def builtinV (b : Builtin) (tys : List TypeId) (vs : List CV) : Option CV := match b, tys, vs with
  | .len, t :: _, v :: _ => lenA P t v
  | .min, _, v :: l => l.foldlM minA v
  | .max, _, v :: l => l.foldlM maxA v
  | .unsafeSliceData, _, [v] => match v with
    | .ns => some .np
    | .sl b n k => cond (Nat.beq n 0 || Nat.beq k 0 == false) none (some (.p b 0))
    | .se b o _ c => cond (Nat.beq c 0) none (some (.p b o))
    | _ => none
  | _, _, _ => none
theorem foldV_eq {f : CV → CV → Option CV} {fr : T CV} : ∀ {l : List Operand} {vs : List CV} {x : CV}, argsA fr l = some vs → foldA f fr x l = vs.foldlM f x
  | [], vs, x, h => by simp only [argsA, Option.some.injEq] at h; subst h; rfl
  | o :: l, vs, x, h => by
    simp only [argsA] at h
    cases h1 : opVal fr o with
    | none => simp [h1] at h
    | some v =>
      cases h2 : argsA fr l with
      | none => simp [h1, h2] at h
      | some r =>
        simp only [h1, h2, Option.some.injEq] at h
        subst h
        simp only [foldA, h1, List.foldlM_cons]
        cases f x v with
        | none => rfl
        | some z => exact foldV_eq h2
theorem builtinV_eq {fr : T CV} {b : Builtin} {tys : List TypeId} {args : List Operand} {vs : List CV} (h : argsA fr args = some vs) {v : CV} (hv : builtinV P b tys vs = some v) : builtinQ P b tys fr args = some v := by
  cases args with
  | nil =>
    simp only [argsA, Option.some.injEq] at h
    subst h
    unfold builtinV at hv
    split at hv <;> simp_all
  | cons o l =>
    simp only [argsA] at h
    cases h1 : opVal fr o with
    | none => simp [h1] at h
    | some x =>
      cases h2 : argsA fr l with
      | none => simp [h1, h2] at h
      | some r =>
        simp only [h1, h2, Option.some.injEq] at h
        subst h
        unfold builtinV at hv
        split at hv
        · rename_i heq; injection heq with e1 e2; subst e1; subst e2; simp only [builtinQ, h1]; exact hv
        · rename_i heq; injection heq with e1 e2; subst e1; subst e2; simp only [builtinQ, h1]; rw [foldV_eq h2]; exact hv
        · rename_i heq; injection heq with e1 e2; subst e1; subst e2; simp only [builtinQ, h1]; rw [foldV_eq h2]; exact hv
        · rename_i heq
          injection heq with e1 e2; subst e1; subst e2
          have hl : l = [] := by
            cases l with
            | nil => rfl
            | cons o2 l2 => simp only [argsA] at h2; split at h2 <;> cases h2
          subst hl
          simp only [builtinQ, h1]
          split at hv <;> simp_all
        · cases hv
end
end Go.Ce
