/-
  A CLOSED EVALUATOR FOR THE MODEL: code, calls, fuel. Conditions: the functions without a body are what the list says.
-/
import Derived.Test.YtcfcagpcaclpkaaGreatDoorCeU
import Derived.LoopN
import Derived.Laws.Sem
namespace Go.Ce
open Go Go.RowKit

def Ex.toExit : Ex → Exit
  | .normal => .normal
  | .exit id => .exit id
  | .goto l => .goto l
  | .ret => .ret
/-- What code must keep. -/
def CodeOK (P : Program) (w0 : World) (ih : Task → Option Res) : Prop := ∀ c n st e st', ih (.code c n st) = some (.code e st') → ∀ ρ a w, SR w0 ρ n st a w →
  c.wp P (fun e' a' w' => e' = e.toExit ∧ ∃ ρ', SR w0 ρ' n st' a' w' ∧ Good ρ st.A ρ' st'.A) a w

section
variable {P : Program} {w0 : World} {exts : List (Nat × Ext)} {ih : Task → Option Res}
theorem tupA_run {ρ : Env} {l : List CV} {xs : List Value} (h : concL ρ l = some xs) : conc ρ (tupA l) = some (if h : xs.toArray.size = 1 then xs.toArray[0] else .tuple xs.toArray) := by
  have hlen := concL_len h
  match l, xs, hlen with
  | [], [], _ => simp [tupA, conc, concL]
  | [v], [x], _ =>
    simp only [concL] at h
    cases hv : conc ρ v with
    | none => simp [hv] at h
    | some y => simp [hv] at h; subst h; simp [tupA, hv]
  | v :: u :: l, x :: y :: xs, _ => simp [tupA, conc, h]
theorem resA_run {ρ : Env} {n : Nat} {st : St} {a : Act} {w : World} (hs : SR w0 ρ n st a w) {F : ResultVar → Sem Value} (hF1 : ∀ t, F (.tmp t) = pure (a.tmps.getD t undef)) (hF2 : ∀ c t, F (.cell c t) = (do loadVar t (← asAddr (a.tmps.getD c undef)))) : ∀ {l : List ResultVar} {vs : List CV}, resA P st.fr st.A l = some vs →
    ∃ xs, concL ρ vs = some xs ∧ (l.mapM F).run P w = .ok xs w
  | [], vs, h => by
    simp [resA] at h
    subst h
    exact ⟨[], rfl, by simp [Sem.run_pure]⟩
  | .tmp t :: l, vs, h => by
    simp only [resA] at h
    cases h1 : st.fr.get t with
    | none => simp [h1] at h
    | some v =>
      cases h2 : resA P st.fr st.A l with
      | none => simp [h1, h2] at h
      | some us =>
        simp [h1, h2] at h
        subst h
        obtain ⟨x, e1, e2⟩ := hs.fr t v h1
        obtain ⟨xs, e3, e4⟩ := resA_run hs hF1 hF2 h2
        refine ⟨x :: xs, by simp [concL, e1, e3], ?_⟩
        simp only [List.mapM_cons, hF1, Sem.run_bind, Sem.run_pure, Result.andThen_ok, e4]
        simp [Array.getD_eq_getD_getElem?, e2]
  | .cell c t :: l, vs, h => by
    simp only [resA] at h
    cases h1 : st.fr.get c with
    | none => simp [h1] at h
    | some v =>
      simp only [h1] at h
      split at h
      · rename_i b o heq
        simp only [Option.some.injEq] at heq
        subst heq
        cases hv : loadA P st.A t b o with
        | none => simp [hv] at h
        | some v =>
          cases h2 : resA P st.fr st.A l with
          | none => simp [hv, h2] at h
          | some us =>
            simp [hv, h2] at h
            subst h
            obtain ⟨x, e1, e2⟩ := hs.fr c _ h1
            obtain ⟨L, hL, he⟩ := conc_p e1
            obtain ⟨y, g1, g2⟩ := load_run (P := P) hs.wr hv hL
            obtain ⟨xs, e3, e4⟩ := resA_run hs hF1 hF2 h2
            refine ⟨y :: xs, by simp [concL, g1, e3], ?_⟩
            have hx : a.tmps.getD c undef = x := by simp [Array.getD_eq_getD_getElem?, e2]
            have has : asAddr (Value.pointer (some { block := L.blk, off := L.sh + o })) = pure { block := L.blk, off := L.sh + o } := rfl
            simp only [List.mapM_cons, hF2, Sem.run_bind, hx, he, has, Sem.run_pure, Result.andThen_ok, g2, e4]
      · cases h
theorem results_run {ρ : Env} {n : Nat} {st : St} {a : Act} {w : World} (hs : SR w0 ρ n st a w) {fn : Func} {vs : List CV} (h : resA P st.fr st.A fn.results.toList = some vs) :
    ∃ x, conc ρ (tupA vs) = some x ∧ (results fn a.tmps).run P w = .ok x w := by
  unfold results
  rw [Array.mapM_eq_mapM_toList]
  obtain ⟨xs, e1, e2⟩ := resA_run (P := P) hs (F := fun x => match x with
      | .tmp t => pure (a.tmps.getD t undef)
      | .cell c t => do loadVar t (← asAddr (a.tmps.getD c undef))) (fun _ => rfl) (fun _ _ => rfl) h
  refine ⟨_, tupA_run e1, ?_⟩
  simp only [Sem.run_bind, Sem.run_map]
  have e3 : ∀ {G : List ResultVar → Sem (List Value)} {r : Result (List Value)}, (G fn.results.toList).run P w = r → r = .ok xs w → (G fn.results.toList).run P w = .ok xs w := fun h1 h2 => h1.trans h2
  refine Eq.trans (congrArg (fun r : Result (List Value) => Result.andThen (Result.andThen r _) _) e2) ?_
  rfl
/-- The first frame. -/
theorem frOf_get : ∀ (l : List CV) (i : Nat) (fr : T CV) (k : Nat), i + l.length < 1000000 → (frOf i l fr).get k = if i ≤ k ∧ k < i + l.length then l[k - i]? else fr.get k
  | [], i, fr, k, _ => by simp only [frOf, List.length_nil]; rw [if_neg (by omega)]
  | v :: l, i, fr, k, hl => by
    simp only [List.length_cons] at hl ⊢
    simp only [frOf]
    rw [frOf_get l (i + 1) _ k (by omega)]
    by_cases h : k = i
    · subst h
      rw [if_neg (by omega), if_pos (by omega), T.get_up_same]
      simp
    · rw [T.get_up_other _ _ h]
      by_cases h1 : i + 1 ≤ k ∧ k < i + 1 + l.length
      · rw [if_pos h1, if_pos (by omega)]
        obtain ⟨m, rfl⟩ : ∃ m, k = i + 1 + m := ⟨k - (i + 1), by omega⟩
        rw [show i + 1 + m - (i + 1) = m by omega, show i + 1 + m - i = m + 1 by omega]
        rfl
      · rw [if_neg h1, if_neg (by omega)]
theorem start_fr {ρ : Env} {vs : List CV} {xs : List Value} (h : concL ρ vs = some xs) (hl : vs.length < 1000000) (n : Nat) : FR ρ (frOf 0 vs .e) (xs.toArray ++ Array.replicate n undef) := by
  intro t v hv
  rw [frOf_get _ _ _ _ (by omega)] at hv
  by_cases ht : 0 ≤ t ∧ t < 0 + vs.length
  · rw [if_pos ht] at hv
    obtain ⟨x, h1, h2⟩ := concL_get h t v (by simpa using hv)
    refine ⟨x, h1, ?_⟩
    have hlen := concL_len h
    rw [Array.getElem?_append_left (by simp; omega)]
    simpa using h2
  · rw [if_neg ht] at hv
    simp [T.get] at hv
/-- What is asked of code that comes out as 'e' with the state st'. -/
def OutC (w0 : World) (n : Nat) (ρ0 : Env) (A0 : AW) (e : Ex) (st' : St) : Exit → Act → World → Prop := fun e' a' w' => e' = e.toExit ∧ ∃ ρ', SR w0 ρ' n st' a' w' ∧ Good ρ0 A0 ρ' st'.A
def LoopOK (P : Program) (w0 : World) (m : Nat) (ih : Task → Option Res) : Prop := ∀ c n st e st', ih (.code (.loop c) n st) = some (.code e st') → ∀ ρ a w, SR w0 ρ n st a w → ∀ ρ0 A0, Good ρ0 A0 ρ st.A →
  Code.rounds P c (OutC w0 n ρ0 A0 e st') m a w
theorem then_out {e : Ex} {n : Nat} {ρ : Env} {A : AW} {st1 : St} {next : Act → World → Prop} {Q : Exit → Act → World → Prop} {e' : Exit} {a' : Act} {w' : World} (h : OutC w0 n ρ A e st1 e' a' w')
    (h1 : e = .normal → ∀ ρ', SR w0 ρ' n st1 a' w' → Good ρ A ρ' st1.A → next a' w') (h2 : e ≠ .normal → ∀ ρ', SR w0 ρ' n st1 a' w' → Good ρ A ρ' st1.A → Q e.toExit a' w') : Exit.then next Q e' a' w' := by
  obtain ⟨rfl, ρ', g1, g2⟩ := h
  cases e
  · exact h1 rfl ρ' g1 g2
  · exact h2 (by simp) ρ' g1 g2
  · exact h2 (by simp) ρ' g1 g2
  · exact h2 (by simp) ρ' g1 g2
theorem step_loop (hK : CodeOK P w0 ih) {m : Nat} (hL : LoopOK P w0 m ih) : LoopOK P w0 (m + 1) (step P exts ih) := by
  intro c n st e st' h ρ a w hs ρ0 A0 hG
  simp only [step] at h
  cases hb : ih (.code c n st) with
  | none => simp [hb] at h
  | some r =>
    cases r with
    | val v A => simp [hb] at h
    | code e1 st1 =>
      refine wp_mono (hK c n st e1 st1 hb ρ a w hs) fun e' a' w' hq => ?_
      refine then_out (w0 := w0) hq (fun he ρ' g1 g2 => ?_) (fun he ρ' g1 g2 => ?_)
      · subst he
        simp only [hb] at h
        exact hL c n st1 e st' h ρ' a' w' g1 ρ0 A0 (hG.trans g2)
      · have : e1 = e ∧ st1 = st' := by
          rw [hb] at h
          cases e1
          · exact absurd rfl he
          all_goals (simp only [Option.some.injEq, Res.code.injEq] at h; exact h)
        obtain ⟨rfl, rfl⟩ := this
        exact ⟨rfl, ρ', g1, hG.trans g2⟩
theorem step_code (hm : P.follows .mixedOrders = true) (hE : ExtOK P exts) (hN : NumOK P) (hC : CallOK P w0 ih) (hK : CodeOK P w0 ih) {m : Nat} (hL : LoopOK P w0 m ih) : CodeOK P w0 (step P exts ih) := by
  intro c n st e st' h ρ a w hs
  cases c with
  | skip =>
    simp only [step, Option.some.injEq, Res.code.injEq] at h
    obtain ⟨rfl, rfl⟩ := h
    exact wp_skip ⟨rfl, ρ, hs, Good.refl _ _⟩
  | label l =>
    simp only [step, Option.some.injEq, Res.code.injEq] at h
    obtain ⟨rfl, rfl⟩ := h
    exact wp_label ⟨rfl, ρ, hs, Good.refl _ _⟩
  | exit id =>
    simp only [step, Option.some.injEq, Res.code.injEq] at h
    obtain ⟨rfl, rfl⟩ := h
    exact wp_exit ⟨rfl, ρ, hs, Good.refl _ _⟩
  | goto l =>
    simp only [step, Option.some.injEq, Res.code.injEq] at h
    obtain ⟨rfl, rfl⟩ := h
    exact wp_goto ⟨rfl, ρ, hs, Good.refl _ _⟩
  | ret =>
    simp only [step, Option.some.injEq, Res.code.injEq] at h
    obtain ⟨rfl, rfl⟩ := h
    exact wp_ret ⟨rfl, ρ, hs, Good.refl _ _⟩
  | region id ops draw =>
    simp only [step] at h
    cases draw with
    | true =>
      simp only [cond_true] at h
      split at h
      · rename_i pl hpl
        split at h
        · rename_i st2 hp
          simp only [Option.some.injEq, Res.code.injEq] at h
          obtain ⟨rfl, rfl⟩ := h
          exact evPlan_run hm hE hN (fun _ => hC) hs hpl hp fun a' w' ρ' g1 g2 => ⟨rfl, ρ', g1, g2⟩
        · cases h
      · cases h
    | false =>
      simp only [cond_false] at h
      split at h
      · rename_i st2 hp
        simp only [Option.some.injEq, Res.code.injEq] at h
        obtain ⟨rfl, rfl⟩ := h
        refine wp_region ?_
        rw [List.range_eq_range', ← Array.length_toList]
        exact evOps_run hE hN hC ops.toList 0 ρ st st2 a w (fun j => by simp) hs hp fun a' w' ρ' g1 g2 => ⟨rfl, ρ', g1, g2⟩
      · cases h
  | seq x y =>
    simp only [step] at h
    cases hb : ih (.code x n st) with
    | none => simp [hb] at h
    | some r =>
      cases r with
      | val v A => simp [hb] at h
      | code e1 st1 =>
        refine wp_seq (wp_mono (hK x n st e1 st1 hb ρ a w hs) fun e' a' w' hq => ?_)
        refine then_out (w0 := w0) hq (fun he ρ' g1 g2 => ?_) (fun he ρ' g1 g2 => ?_)
        · subst he
          simp only [hb] at h
          exact wp_mono (hK y n st1 e st' h ρ' a' w' g1) fun e2 a2 w2 ⟨q1, ρ2, q2, q3⟩ => ⟨q1, ρ2, q2, g2.trans q3⟩
        · have : e1 = e ∧ st1 = st' := by
            rw [hb] at h
            cases e1
            · exact absurd rfl he
            all_goals (simp only [Option.some.injEq, Res.code.injEq] at h; exact h)
          obtain ⟨rfl, rfl⟩ := this
          exact ⟨rfl, ρ', g1, g2⟩
  | cond x y z =>
    simp only [step] at h
    split at h
    · rename_i t ht
      have := hs.fr.ok x _ ht
      simp only [conc, Option.some.injEq] at this
      refine wp_cond this.symm ?_
      cases t with
      | true => exact hK y n st e st' h ρ a w hs
      | false => exact hK z n st e st' h ρ a w hs
    · cases h
  | block id b =>
    simp only [step] at h
    refine wp_block ?_
    cases hb : ih (.code b n st) with
    | none => simp [hb] at h
    | some r =>
      cases r with
      | val v A => simp [hb] at h
      | code e1 st1 =>
        refine wp_mono (hK b n st e1 st1 hb ρ a w hs) fun e' a' w' hq => ?_
        obtain ⟨rfl, ρ', g1, g2⟩ := hq
        rw [hb] at h
        cases e1 with
        | exit i =>
          simp only at h
          cases hi : Nat.beq i id with
          | true =>
            rw [hi] at h
            simp only [cond_true, Option.some.injEq, Res.code.injEq] at h
            obtain ⟨rfl, rfl⟩ := h
            have : i = id := Nat.eq_of_beq_eq_true hi
            show if i = id then _ else _
            rw [if_pos this]
            exact ⟨rfl, ρ', g1, g2⟩
          | false =>
            rw [hi] at h
            simp only [cond_false, Option.some.injEq, Res.code.injEq] at h
            obtain ⟨rfl, rfl⟩ := h
            have : i ≠ id := Nat.ne_of_beq_eq_false hi
            show if i = id then _ else _
            rw [if_neg this]
            exact ⟨rfl, ρ', g1, g2⟩
        | normal =>
          simp only [Option.some.injEq, Res.code.injEq] at h
          obtain ⟨rfl, rfl⟩ := h
          exact ⟨rfl, ρ', g1, g2⟩
        | goto l =>
          simp only [Option.some.injEq, Res.code.injEq] at h
          obtain ⟨rfl, rfl⟩ := h
          exact ⟨rfl, ρ', g1, g2⟩
        | ret =>
          simp only [Option.some.injEq, Res.code.injEq] at h
          obtain ⟨rfl, rfl⟩ := h
          exact ⟨rfl, ρ', g1, g2⟩
  | loop b => exact wp_loop_rounds (m + 1) (step_loop (exts := exts) hK hL b n st e st' h ρ a w hs ρ st.A (Good.refl _ _))
  | _ => simp [step] at h
theorem step_call (hK : CodeOK P w0 ih) : CallOK P w0 (step P exts ih) := by
  intro f vs A v A' h ρ w xs hw hx
  simp only [step] at h
  split at h
  · rename_i fn hf
    split at h
    · rename_i c hc
      rw [forceNat_eq] at h
      obtain ⟨h1, h⟩ := cond_some h
      rw [blt_iff] at h1
      refine ⟨⟨fn, hf, by simp [hc]⟩, ?_⟩
      refine calls_of_wp hf hc ?_
      have hlen := concL_len hx
      rw [lenN_eq] at h h1
      have hs : SR w0 ρ (Nat.max fn.ntmps vs.length) ⟨frOf 0 vs .e, A⟩ { tmps := xs.toArray ++ Array.replicate (fn.ntmps - xs.toArray.size) undef, defers := [] } w := by
        refine ⟨rfl, ?_, h1, start_fr hx (Nat.lt_of_le_of_lt (Nat.le_max_right fn.ntmps vs.length) h1) _, hw⟩
        simp only [Array.size_append, Array.size_replicate, List.size_toArray]
        show _ = max fn.ntmps vs.length
        omega
      cases hb : ih (.code c (Nat.max fn.ntmps vs.length) ⟨frOf 0 vs .e, A⟩) with
      | none => simp [hb] at h
      | some r =>
        cases r with
        | val v A => simp [hb] at h
        | code e1 st1 =>
          refine wp_mono (hK c _ _ e1 st1 hb ρ _ w hs) fun e' a' w' hq => ?_
          obtain ⟨rfl, ρ', g1, g2⟩ := hq
          rw [hb] at h
          have key : ∀ l, resA P st1.fr st1.A fn.results.toList = some l → v = tupA l → A' = st1.A → a'.defers = [] ∧ ∃ z, (results fn a'.tmps).run P w' = .ok z w' ∧ (∃ z' ρ'', Ending.returned z = .returned z' ∧ WR w0 ρ'' A' w' ∧ Good ρ A ρ'' A' ∧ conc ρ'' v = some z') := by
            rintro l hl rfl rfl
            obtain ⟨z, q1, q2⟩ := results_run (P := P) g1 hl
            exact ⟨g1.defers, z, q2, z, ρ', rfl, g1.wr, g2, q1⟩
          cases e1 with
          | normal =>
            simp only at h
            split at h
            · rename_i l hl
              simp only [Option.some.injEq, Res.val.injEq] at h
              exact key l hl h.1.symm h.2.symm
            · cases h
          | ret =>
            simp only at h
            split at h
            · rename_i l hl
              simp only [Option.some.injEq, Res.val.injEq] at h
              exact key l hl h.1.symm h.2.symm
            · cases h
          | exit i => simp at h
          | goto l => simp at h
    · cases h
  · cases h
theorem ev_ok (hm : P.follows .mixedOrders = true) (hE : ExtOK P exts) (hN : NumOK P) : ∀ fuel, CodeOK P w0 (ev P exts fuel) ∧ LoopOK P w0 fuel (ev P exts fuel) ∧ CallOK P w0 (ev P exts fuel)
  | 0 => ⟨fun c n st e st' h => (by cases h), fun c n st e st' h => (by cases h), fun f vs A v A' h => (by cases h)⟩
  | k + 1 =>
    have ⟨h1, h2, h3⟩ := ev_ok hm hE hN k
    ⟨step_code hm hE hN h3 h1 h2, step_loop h1 h2, step_call h1⟩
/-- ████ A CLOSED RUN THAT COMES OUT TRUE IN THE EVALUATOR COMES OUT TRUE IN EVERY WORLD, UNDER EVERY TAPE, AND LEAVES WHAT WAS THERE. -/
theorem closed_true (hm : P.follows .mixedOrders = true) (hE : ExtOK P exts) (hN : NumOK P) {f : Nat} (fuel : Nat) {A' : AW} (h : ev P exts fuel (.call f [] ⟨0, .e⟩) = some (.val (.b true) A')) (w : World) :
    Calls P f #[] w fun e w' => e = .returned (.bool true) ∧ Below w.heap.size w w' := by
  have hW : WR w (fun _ => none) ⟨0, .e⟩ w := ⟨Below.refl _ _, fun b L h => (by cases h), fun b _ => rfl, fun b ob L h => (by cases h), fun b b' ob ob' L L' h => (by cases h)⟩
  obtain ⟨_, h2⟩ := (ev_ok (w0 := w) hm hE hN fuel).2.2 f [] _ _ _ h _ w [] hW rfl
  refine h2.mono fun e w' ⟨z, ρ', q1, q2, _, q3⟩ => ?_
  simp only [conc, Option.some.injEq] at q3
  exact ⟨by rw [q1, ← q3], q2.below⟩
end
end Go.Ce
