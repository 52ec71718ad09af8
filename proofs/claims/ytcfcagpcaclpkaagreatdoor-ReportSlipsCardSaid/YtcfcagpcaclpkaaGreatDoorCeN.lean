/-
  A CLOSED EVALUATOR FOR THE MODEL: one operation in its turn; a region in the order of its text. Conditions: the functions without a body are what the list says.
-/
import Derived.Test.YtcfcagpcaclpkaaGreatDoorCeM
namespace Go.Ce
open Go Go.RowKit

/-- What a call must keep. -/
def CallOK (P : Program) (w0 : World) (ih : Task → Option Res) : Prop := ∀ f vs A v A', ih (.call f vs A) = some (.val v A') → ∀ ρ w xs, WR w0 ρ A w → concL ρ vs = some xs →
  (∃ fn, P.funcs[f]? = some fn ∧ fn.body.isSome = true) ∧ Calls P f xs.toArray w fun e w' => ∃ z ρ', e = .returned z ∧ WR w0 ρ' A' w' ∧ Good ρ A ρ' A' ∧ conc ρ' v = some z
section
variable {P : Program} {w0 : World} {ρ : Env} {A : AW} {w : World} {fr : T CV} {a : Act} {exts : List (Nat × Ext)} {ih : Task → Option Res}
theorem argsA_run : ∀ {l : List Operand} {vs : List CV}, argsA fr l = some vs → (∀ x ∈ l, OK ρ fr a x) → concL ρ vs = some (l.map a.eval)
  | [], vs, h, _ => by simp [argsA] at h; subst h; rfl
  | o :: l, vs, h, hok => by
    simp only [argsA] at h
    cases h1 : opVal fr o <;> cases h2 : argsA fr l <;> simp [h1, h2] at h
    subst h
    have e1 := hok o (by simp) _ h1
    have e2 := argsA_run h2 (fun x hx => hok x (by simp [hx]))
    simp [concL, e1, e2]
theorem mem_operands {c : Call} {x : Operand} (h : x ∈ c.args.toList) : x ∈ c.operands := by
  have : x ∈ c.args := by rw [← Array.mem_toList_iff]; exact h
  simp [Call.operands, this]
/-- ████ AN OPERATION THAT MAY TURN THE WORLD. -/
theorem evW_run (hE : ExtOK P exts) (hN : NumOK P) (hC : CallOK P w0 ih) (hw : WR w0 ρ A w) {o : Oper} {v : Option CV} {A' : AW} (h : evW P exts ih o fr A = some (v, A')) (hok : ∀ x ∈ o.op.operands, OK ρ fr a x)
    {K : Act → World → Prop} {Q : Exit → Act → World → Prop}
    (hK : ∀ z w' ρ', WR w0 ρ' A' w' → Good ρ A ρ' A' → conc ρ' (v.getD (.t [])) = some z → K (a.put o.dst z) w') : o.wp P a w K Q := by
  obtain ⟨dst, op, ty, pos, after, guard⟩ := o
  simp only at hK hok
  unfold Oper.wp
  cases op <;> simp only [evW, reduceCtorEq] at h <;> simp only [Op.operands] at hok
  case store t x y =>
    split at h
    · rename_i b off xv hx hy
      split at h
      · rename_i A2 hs
        simp only [Option.some.injEq, Prod.mk.injEq] at h
        obtain ⟨rfl, rfl⟩ := h
        obtain ⟨L, hL, he⟩ := conc_p (hok x (by simp) _ hx)
        obtain ⟨w', e1, e2, e3⟩ := storeA_run (P := P) hw hs hL (hok y (by simp) _ hy)
        have hrun : (execOp a.eval { dst := dst, op := .store t x y, type := ty, pos := pos, after := after, guard := guard }).run P w = .ok .skip w' := by
          simp [execOp, Instr.storeAt, he, Instr.sureAddr, e1]
        rw [hrun]
        exact hK undef w' ρ e2 e3 rfl
      · cases h
    · cases h
  case convert s d x =>
    split at h
    · rename_i c hc
      split at h
      · rename_i r A2 hs
        simp only [Option.some.injEq, Prod.mk.injEq] at h
        obtain ⟨rfl, rfl⟩ := h
        obtain ⟨z, w', e1, ρ', e2, e3, e4⟩ := s2bA_run (P := P) hw hs (hok x (by simp) _ hc)
        have hrun : (execOp a.eval { dst := dst, op := .convert s d x, type := ty, pos := pos, after := after, guard := guard }).run P w = .ok (.value z) w' := by
          simp [execOp, e1]
        rw [hrun]
        exact hK z w' ρ' e2 e3 e4
      · cases h
    · cases h
  case call c =>
    obtain ⟨callee, args, argTypes⟩ := c
    simp only at h
    split at h
    · -- append
      split at h
      · rename_i t u tys s x ht ha
        split at h
        · rename_i sv xv hs hx
          split at h
          · rename_i r A2 hap
            simp only [Option.some.injEq, Prod.mk.injEq] at h
            obtain ⟨rfl, rfl⟩ := h
            have hoks : OK ρ fr a s := hok s (mem_operands (by simp only; rw [ha]; simp))
            have hokx : OK ρ fr a x := hok x (mem_operands (by simp only; rw [ha]; simp))
            obtain ⟨z, w', e1, ρ', e2, e3, e4⟩ := appendA_run (P := P) hw hap (hoks _ hs) (hokx _ hx) ty tys
            have hta : argTypes = (t :: u :: tys).toArray := by rw [← ht]
            have haa : args.map a.eval = #[a.eval s, a.eval x] := by
              have : args = #[s, x] := by rw [← Array.toArray_toList (xs := args), ha]
              rw [this]; simp
            have hrun : (execOp a.eval { dst := dst, op := .call ⟨.builtin .append, args, argTypes⟩, type := ty, pos := pos, after := after, guard := guard }).run P w = .ok (.value z) w' := by
              simp only [execOp, resolve, Sem.run_bind, Sem.run_pure, Result.andThen_ok, invoke, builtin, haa, hta, e1]
            rw [hrun]
            exact hK z w' ρ' e2 e3 e4
          · cases h
        · cases h
      · cases h
    · -- unsafe.String
      split at h
      · rename_i p n ha
        split at h
        · rename_i pv nv hp hn
          split at h
          · rename_i r A2 hap
            simp only [Option.some.injEq, Prod.mk.injEq] at h
            obtain ⟨rfl, rfl⟩ := h
            have hokp : OK ρ fr a p := hok p (mem_operands (by simp only; rw [ha]; simp))
            have hokn : OK ρ fr a n := hok n (mem_operands (by simp only; rw [ha]; simp))
            obtain ⟨z, w', e1, ρ', e2, e3, e4⟩ := usA_run (P := P) hw hap (hokp _ hp) (hokn _ hn) ty
            have haa : args.map a.eval = #[a.eval p, a.eval n] := by
              have : args = #[p, n] := by rw [← Array.toArray_toList (xs := args), ha]
              rw [this]; simp
            have hta : argTypes.toList.toArray = argTypes := Array.toArray_toList
            rw [hta] at e1
            have hrun : (execOp a.eval { dst := dst, op := .call ⟨.builtin .unsafeString, args, argTypes⟩, type := ty, pos := pos, after := after, guard := guard }).run P w = .ok (.value z) w' := by
              simp only [execOp, resolve, Sem.run_bind, Sem.run_pure, Result.andThen_ok, invoke, builtin, haa, e1]
            rw [hrun]
            exact hK z w' ρ' e2 e3 e4
          · cases h
        · cases h
      · cases h
    · -- a Go function
      rename_i f
      split at h
      case h_2 => cases h
      rename_i vs hvs
      have hxs : concL ρ vs = some (args.toList.map a.eval) := argsA_run hvs fun x hx => hok x (mem_operands hx)
      have haa : (args.toList.map a.eval).toArray = args.map a.eval := by rw [← Array.toList_map]
      have hexe : ∀ w, (execOp a.eval { dst := dst, op := .call ⟨.value (.func f), args, argTypes⟩, type := ty, pos := pos, after := after, guard := guard }).run P w = (callFunc f (args.map a.eval)).run P w := by
        intro w
        simp [execOp, resolve, Deferred.ofValue, Act.eval, invoke]
      split at h
      · rename_i e he
        split at h
        · rename_i r hr
          simp only [Option.some.injEq, Prod.mk.injEq] at h
          obtain ⟨rfl, rfl⟩ := h
          obtain ⟨fn, g1, g2, g3, g4, g5⟩ := hE f e he
          obtain ⟨z, e1, e2⟩ := extA_run (P := P) hr hxs w
          rw [haa] at e2
          have hrun := run_callFunc_extern g1 g2 g3 g4 g5 (args.map a.eval) w
          rw [hexe, hrun, e2]
          exact hK z w ρ hw (Good.refl _ _) e1
        · cases h
      · split at h
        · rename_i r A2 hr
          simp only [Option.some.injEq, Prod.mk.injEq] at h
          obtain ⟨rfl, rfl⟩ := h
          obtain ⟨⟨fn, g1, g2⟩, hcall⟩ := hC f vs A _ _ hr ρ w _ hw hxs
          rw [haa] at hcall
          have g3 := hN f fn g1 g2
          have hrun : (callFunc f (args.map a.eval)).run P w = .ok (.enter f (args.map a.eval)) w := by
            have h1 : fn.name ≠ "runtime.NumGoroutine" := by simpa using g3
            obtain ⟨b, hb⟩ := Option.isSome_iff_exists.1 g2
            simp [callFunc, g1, h1, hb]
          rw [hexe, hrun]
          refine hcall.mono fun e w' ⟨z, ρ', q1, q2, q3, q4⟩ => ?_
          subst q1
          exact hK z w' ρ' q2 q3 q4
        · cases h
    · cases h
end
end Go.Ce
