/-
  A CLOSED EVALUATOR FOR THE MODEL: the frame; one operation in its turn; a region that draws no order. Conditions: the functions without a body are what the list says.
-/
import Derived.Test.YtcfcagpcaclpkaaGreatDoorCeN
namespace Go.Ce
open Go Go.RowKit

def FR (ρ : Env) (fr : T CV) (tmps : Array Value) : Prop := ∀ t v, fr.get t = some v → ∃ x, conc ρ v = some x ∧ tmps[t]? = some x
structure SR (w0 : World) (ρ : Env) (n : Nat) (st : St) (a : Act) (w : World) : Prop where
  defers : a.defers = []
  size : a.tmps.size = n
  lim : n < 1000000
  fr : FR ρ st.fr a.tmps
  wr : WR w0 ρ st.A w
theorem ok_of {ρ : Env} {fr : T CV} {a : Act} {x : Operand} (h : ∀ t v, x = .tmp t → fr.get t = some v → ∃ y, conc ρ v = some y ∧ a.tmps[t]? = some y) : OK ρ fr a x := by
  intro c hc
  cases x with
  | tmp t =>
    obtain ⟨y, h1, h2⟩ := h t c rfl hc
    rw [h1]
    simp [Act.eval, Array.getD_eq_getD_getElem?, h2]
  | const v => exact conc_ofV hc
  | global g => simp [opVal] at hc
  | func f => simp only [opVal, Option.some.injEq] at hc; subst hc; rfl
theorem FR.ok {ρ : Env} {fr : T CV} {a : Act} (h : FR ρ fr a.tmps) (x : Operand) : OK ρ fr a x := ok_of fun t v _ hv => h t v hv
theorem FR.mono {ρ ρ' : Env} {fr : T CV} {tmps : Array Value} (h : FR ρ fr tmps) (hle : ρ.le ρ') : FR ρ' fr tmps := fun t v hv =>
  let ⟨x, h1, h2⟩ := h t v hv
  ⟨x, conc_mono hle v x h1, h2⟩
theorem put_size (a : Act) (d : Option Tmp) (x : Value) : (a.put d x).tmps.size = a.tmps.size := by cases d <;> simp [Act.put]
theorem put_defs (a : Act) (d : Option Tmp) (x : Value) : (a.put d x).defers = a.defers := by cases d <;> rfl
theorem FR.put {ρ : Env} {fr fr' : T CV} {n : Nat} {a : Act} {d : Option Nat} {v : CV} {x : Value} (h : FR ρ fr a.tmps) (hs : a.tmps.size = n) (hl : n < 1000000) (hp : putD n fr d v = some fr') (hx : conc ρ v = some x) : FR ρ fr' (a.put d x).tmps := by
  unfold putD at hp
  cases d with
  | none => simp only [Option.some.injEq] at hp; subst hp; exact h
  | some t =>
    obtain ⟨h1, h2⟩ := cond_some hp
    rw [blt_iff] at h1
    simp only [Option.some.injEq] at h2
    subst h2
    intro u c hc
    by_cases e : u = t
    · subst e
      rw [T.get_up_same] at hc
      simp only [Option.some.injEq] at hc
      subst hc
      refine ⟨x, hx, ?_⟩
      have hu : u < a.tmps.size := by omega
      simp [Act.put, hu]
    · rw [T.get_up_other _ _ e] at hc
      obtain ⟨y, e1, e2⟩ := h u c hc
      refine ⟨y, e1, ?_⟩
      simp only [Act.put]
      rw [Array.getElem?_setIfInBounds_ne (Ne.symm e)]
      exact e2
theorem wantedA_run' {ρ : Env} {fr : T CV} {ops : Array Oper} {tmps : Array Value} {o : Oper} {b : Bool} (h : wantedA ops.toList fr o = some b)
    (hf : ∀ j want g t v, o.guard = some (j, want) → ops[j]? = some g → g.dst = some t → fr.get t = some v → ∃ x, conc ρ v = some x ∧ tmps[t]? = some x) : Region.wanted o (yielded ops tmps) = b := by
  unfold wantedA at h
  unfold Region.wanted
  cases hg : o.guard with
  | none => simp only [hg, Option.some.injEq] at h ⊢; exact h
  | some jw =>
    obtain ⟨j, want⟩ := jw
    simp only [hg] at h ⊢
    rw [getN_eq, Array.getElem?_toList] at h
    cases hj : ops[j]? with
    | none => simp [hj] at h
    | some g =>
      simp only [hj] at h
      cases ht : g.dst with
      | none => simp [ht] at h
      | some t =>
        simp only [ht] at h
        cases hv : fr.get t with
        | none => simp [hv] at h
        | some v =>
          simp only [hv] at h
          obtain ⟨x, e1, e2⟩ := hf j want g t v hg hj ht hv
          split at h
          · rename_i y heq
            simp only [Option.some.injEq] at heq h
            subst heq
            simp only [conc, Option.some.injEq] at e1
            subst e1
            have hy : yielded ops tmps j = some y := by simp [yielded, hj, ht, e2]
            rw [hy, ← h]
            cases y <;> cases want <;> rfl
          · rename_i heq
            simp only [Option.some.injEq] at heq h
            subst heq
            simp only [conc, concL, Option.some.injEq] at e1
            subst e1
            have hy : yielded ops tmps j = none := by simp [yielded, hj, ht, e2]
            rw [hy, ← h]
            rfl
          · cases h
theorem wantedA_run {ρ : Env} {fr : T CV} {ops : Array Oper} {tmps : Array Value} {o : Oper} {b : Bool} (h : wantedA ops.toList fr o = some b) (hf : FR ρ fr tmps) : Region.wanted o (yielded ops tmps) = b :=
  wantedA_run' h fun _ _ _ t v _ _ _ hv => hf t v hv

section
variable {P : Program} {w0 : World} {exts : List (Nat × Ext)} {ih : Task → Option Res}
theorem doQ_run {ρ : Env} {n : Nat} {st st' : St} {a : Act} {w : World} (hs : SR w0 ρ n st a w) {o : Oper} (h : doQ P n o st = some st') :
    ∃ z, (execOp a.eval o).run P w = .ok (.value z) w ∧ SR w0 ρ n st' (a.put o.dst z) w ∧ st'.A = st.A := by
  unfold doQ at h
  split at h
  · rename_i v hv
    split at h
    · rename_i fr hp
      simp only [Option.some.injEq] at h
      subst h
      obtain ⟨z, e1, e2⟩ := evQ_run (a := a) hs.wr hv (fun x _ => hs.fr.ok x)
      exact ⟨z, e2, ⟨by rw [put_defs]; exact hs.defers, by rw [put_size]; exact hs.size, hs.lim, hs.fr.put hs.size hs.lim hp e1, hs.wr⟩, rfl⟩
    · cases h
  · cases h
theorem doN_run {ρ : Env} {n : Nat} {st st' : St} {a : Act} {w : World} (hs : SR w0 ρ n st a w) {o : Oper} (h : doN n o st = some st') : SR w0 ρ n st' (a.put o.dst undef) w ∧ st'.A = st.A := by
  unfold doN at h
  split at h
  · rename_i fr hp
    simp only [Option.some.injEq] at h
    subst h
    exact ⟨⟨by rw [put_defs]; exact hs.defers, by rw [put_size]; exact hs.size, hs.lim, hs.fr.put hs.size hs.lim hp rfl, hs.wr⟩, rfl⟩
  · cases h
theorem doAl_run {ρ : Env} {n : Nat} {st st' : St} {a : Act} {w : World} (hs : SR w0 ρ n st a w) {o : Oper} (h : doAl P n o st = some st') :
    ∃ z w' ρ', (execOp a.eval o).run P w = .ok (.value z) w' ∧ SR w0 ρ' n st' (a.put o.dst z) w' ∧ Good ρ st.A ρ' st'.A := by
  unfold doAl at h
  split at h
  · rename_i ob mk hal
    split at h
    · rename_i A' hA
      split at h
      · rename_i fr hp
        simp only [Option.some.injEq] at h
        subst h
        obtain ⟨C, X, e1, e2, e3, e4, e5, e6⟩ := evAl_run (a := a) hal (fun x _ => hs.fr.ok x)
        obtain ⟨v1, v2, v3, v4⟩ := hs.wr.virt hA
        obtain ⟨r1, r2⟩ := v1.real v3 v4 (C := C) (f := (0, 0)) (cap := 0) (esz := 0) (w.alloc (.cells C ob.el)) rfl rfl rfl rfl
          (fun j v hj => by
            obtain ⟨x, g1, g2⟩ := concL_get e2 j v hj
            exact ⟨x, g1, by simpa using g2⟩) (.inl rfl) e3.symm (by simp)
        have hz := e6 st.A.next w.heap.size (ρ.set st.A.next ⟨w.heap.size, 0, 0, 0⟩) (Env.set_same _ _ _)
        exact ⟨_, _, _, e1 w, ⟨by rw [put_defs]; exact hs.defers, by rw [put_size]; exact hs.size, hs.lim, (hs.fr.mono r2).put hs.size hs.lim hp hz, r1⟩, ⟨fun b hb => Env.set_other _ _ (by omega), v2.next, v2.keep⟩⟩
      · cases h
    · cases h
  · cases h
theorem doW_run {ρ : Env} {n : Nat} {st st' : St} {a : Act} {w : World} (hE : ExtOK P exts) (hN : NumOK P) (hC : CallOK P w0 ih) (hs : SR w0 ρ n st a w) {o : Oper} (h : doW P exts ih n o st = some st')
    {K : Act → World → Prop} {Q : Exit → Act → World → Prop} (hK : ∀ a' w' ρ', SR w0 ρ' n st' a' w' → Good ρ st.A ρ' st'.A → K a' w') : o.wp P a w K Q := by
  unfold doW at h
  split at h
  · rename_i v A' hv
    split at h
    · rename_i fr hp
      simp only [Option.some.injEq] at h
      subst h
      refine evW_run (a := a) hE hN hC hs.wr hv (fun x _ => hs.fr.ok x) fun z w' ρ' h1 h2 h3 => hK _ w' ρ' ?_ h2
      exact ⟨by rw [put_defs]; exact hs.defers, by rw [put_size]; exact hs.size, hs.lim, (hs.fr.mono (h2.le hs.wr)).put hs.size hs.lim hp h3, h1⟩
    · cases h
  · cases h
theorem evOp_run {ρ : Env} {n : Nat} {st st' : St} {a : Act} {w : World} (hE : ExtOK P exts) (hN : NumOK P) (hC : CallOK P w0 ih) (hs : SR w0 ρ n st a w) {o : Oper} (h : evOp P exts ih n o st = some st')
    {K : Act → World → Prop} {Q : Exit → Act → World → Prop} (hK : ∀ a' w' ρ', SR w0 ρ' n st' a' w' → Good ρ st.A ρ' st'.A → K a' w') : o.wp P a w K Q := by
  unfold evOp at h
  split at h
  · obtain ⟨z, e1, e2, e3⟩ := doQ_run hs h
    unfold Oper.wp
    rw [e1]
    exact hK _ w ρ e2 (by rw [e3]; exact Good.refl _ _)
  · obtain ⟨z, w', ρ', e1, e2, e3⟩ := doAl_run hs h
    unfold Oper.wp
    rw [e1]
    exact hK _ w' ρ' e2 e3
  · exact doW_run hE hN hC hs h hK
/-- ████ A REGION THAT DRAWS NO ORDER. -/
theorem evOps_run (hE : ExtOK P exts) (hN : NumOK P) (hC : CallOK P w0 ih) {ops : Array Oper} {n : Nat} {Q : Exit → Act → World → Prop} : ∀ (l : List Oper) (k : Nat) (ρ : Env) (st st' : St) (a : Act) (w : World), (∀ j, l[j]? = ops[k + j]?) → SR w0 ρ n st a w → evOps P exts ih ops.toList n l st = some st' →
    (∀ a' w' ρ', SR w0 ρ' n st' a' w' → Good ρ st.A ρ' st'.A → Q .normal a' w') → wpOps P ops Q (List.range' k l.length) a w
  | [], k, ρ, st, st', a, w, _, hs, h, hQ => by
    simp only [evOps, Option.some.injEq] at h
    subst h
    exact hQ a w ρ hs (Good.refl _ _)
  | o :: l, k, ρ, st, st', a, w, hl, hs, h, hQ => by
    have h0 : ops[k]? = some o := by simpa using (hl 0).symm
    have hl' : ∀ j, l[j]? = ops[k + 1 + j]? := fun j => by have := hl (j + 1); simpa [Nat.add_assoc, Nat.add_comm 1 j] using this
    simp only [List.length_cons, List.range'_succ, wpOps, h0]
    simp only [evOps] at h
    cases hw : wantedA ops.toList st.fr o with
    | none => simp [hw] at h
    | some b =>
      have hwd := wantedA_run hw hs.fr
      cases b with
      | true =>
        simp only [hw] at h
        rw [if_pos hwd]
        cases he : evOp P exts ih n o st with
        | none => simp [he] at h
        | some st2 =>
          simp only [he] at h
          refine .inl (evOp_run hE hN hC hs he fun a' w' ρ' h1 h2 => ?_)
          exact evOps_run hE hN hC l (k + 1) ρ' st2 st' a' w' hl' h1 h fun a3 w3 ρ3 h3 h4 => hQ a3 w3 ρ3 h3 (h2.trans h4)
      | false =>
        simp only [hw] at h
        rw [if_neg (by rw [hwd]; simp)]
        cases he : doN n o st with
        | none => simp [he] at h
        | some st2 =>
          simp only [he] at h
          obtain ⟨h1, h2⟩ := doN_run hs he
          exact evOps_run hE hN hC l (k + 1) ρ st2 st' _ w hl' h1 h fun a3 w3 ρ3 h3 h4 => hQ a3 w3 ρ3 h3 (by rw [← h2]; exact h4)
end
end Go.Ce
