/-
  A PROGRAM LOGIC OVER THE MACHINE OF CeA: calls, code and operations that come out in one way whatever the world draws. Conditions: none.
-/
import Derived.Test.YtcfcagpcaclpkaaGreatDoorCeW
namespace Go.Ce
open Go Go.RowKit

/-- What is asked of a program: the functions without a body are what the list says. -/
structure Fit (P : Program) (exts : List (Nat × Ext)) : Prop where
  mixed : P.follows .mixedOrders = true
  ext : ExtOK P exts
  num : NumOK P
section
variable (P : Program) (w0 : World)
/-- A call that comes out so, whatever the world. -/
def FD (f : Nat) (vs : List CV) (A : AW) (v : CV) (A' : AW) : Prop := ∀ ρ w xs, WR w0 ρ A w → concL ρ vs = some xs →
  (∃ fn, P.funcs[f]? = some fn ∧ fn.body.isSome = true) ∧ Calls P f xs.toArray w fun e w' => ∃ z ρ', e = .returned z ∧ WR w0 ρ' A' w' ∧ Good ρ A ρ' A' ∧ conc ρ' v = some z
/-- Code that comes out so. -/
def CD (c : Code) (n : Nat) (st : St) (e : Ex) (st' : St) : Prop := ∀ ρ a w, SR w0 ρ n st a w →
  c.wp P (fun e' a' w' => e' = e.toExit ∧ ∃ ρ', SR w0 ρ' n st' a' w' ∧ Good ρ st.A ρ' st'.A) a w
/-- Operations one behind the other. -/
def OD (ops : Array Oper) (l : List Oper) (n : Nat) (st st' : St) : Prop := ∀ ρ a w k (Q : Exit → Act → World → Prop), (∀ j, l[j]? = ops[k + j]?) → SR w0 ρ n st a w →
  (∀ a' w' ρ', SR w0 ρ' n st' a' w' → Good ρ st.A ρ' st'.A → Q .normal a' w') → wpOps P ops Q (List.range' k l.length) a w
/-- A call, and what is asked of its outcome. -/
def F (f : Nat) (vs : List CV) (A : AW) (Q : CV → AW → Prop) : Prop := ∃ v A', FD P w0 f vs A v A' ∧ Q v A'
/-- Code, and what is asked of its outcome. -/
def W (c : Code) (n : Nat) (st : St) (Q : Ex → St → Prop) : Prop := ∃ e st', CD P w0 c n st e st' ∧ Q e st'
end

section
variable {P : Program} {w0 : World} {exts : List (Nat × Ext)}
theorem F.mono {f : Nat} {vs : List CV} {A : AW} {Q Q' : CV → AW → Prop} (h : F P w0 f vs A Q) (hq : ∀ v A', Q v A' → Q' v A') : F P w0 f vs A Q' :=
  let ⟨v, A', h1, h2⟩ := h; ⟨v, A', h1, hq v A' h2⟩
theorem W.mono {c : Code} {n : Nat} {st : St} {Q Q' : Ex → St → Prop} (h : W P w0 c n st Q) (hq : ∀ e st', Q e st' → Q' e st') : W P w0 c n st Q' :=
  let ⟨e, st', h1, h2⟩ := h; ⟨e, st', h1, hq e st' h2⟩

/-! ### Frames -/
/-- What a frame holds at some places. -/
def Fr (fr : T CV) : List (Nat × CV) → Prop
  | [] => True
  | (t, v) :: l => fr.get t = some v ∧ Fr fr l
def mkFr : List (Nat × CV) → T CV
  | [] => .e
  | (t, v) :: l => T.up (mkFr l) t (some v)
theorem mkFr_le {fr : T CV} : ∀ {l : List (Nat × CV)}, Fr fr l → ∀ t v, (mkFr l).get t = some v → fr.get t = some v
  | [], _, t, v, h => by rw [mkFr, T.get_e] at h; cases h
  | (u, x) :: l, h, t, v, hg => by
    by_cases e : t = u
    · subst e
      rw [mkFr, T.get_up_same] at hg
      rw [← hg]; exact h.1
    · rw [mkFr, T.get_up_other _ _ e] at hg
      exact mkFr_le h.2 t v hg
theorem SR.le {ρ : Env} {n : Nat} {fr fr' : T CV} {A : AW} {a : Act} {w : World} (hs : SR w0 ρ n ⟨fr', A⟩ a w) (h : ∀ t v, fr.get t = some v → fr'.get t = some v) : SR w0 ρ n ⟨fr, A⟩ a w :=
  ⟨hs.defers, hs.size, hs.lim, fun t v ht => hs.fr t v (h t v ht), hs.wr⟩
theorem W.weaken {c : Code} {n : Nat} {fr fr' : T CV} {A : AW} {Q : Ex → St → Prop} (hf : ∀ t v, fr.get t = some v → fr'.get t = some v) (h : W P w0 c n ⟨fr, A⟩ Q) : W P w0 c n ⟨fr', A⟩ Q :=
  let ⟨e, st', h1, h2⟩ := h; ⟨e, st', fun ρ a w hs => h1 ρ a w (hs.le hf), h2⟩
theorem W.frame {c : Code} {n : Nat} {fr : T CV} {l : List (Nat × CV)} {A : AW} {Q : Ex → St → Prop} (hf : Fr fr l) (h : W P w0 c n ⟨mkFr l, A⟩ Q) : W P w0 c n ⟨fr, A⟩ Q := h.weaken (mkFr_le hf)

/-! ### Code -/
theorem CD.now {c : Code} {n : Nat} {st : St} {e : Ex} (h : ∀ {Q : Exit → Act → World → Prop} {a : Act} {w : World}, Q e.toExit a w → c.wp P Q a w) : CD P w0 c n st e st :=
  fun ρ _ _ hs => h ⟨rfl, ρ, hs, Good.refl _ _⟩
theorem W.skip {n : Nat} {st : St} {Q : Ex → St → Prop} (h : Q .normal st) : W P w0 .skip n st Q := ⟨_, _, CD.now wp_skip, h⟩
theorem W.label {l n : Nat} {st : St} {Q : Ex → St → Prop} (h : Q .normal st) : W P w0 (.label l) n st Q := ⟨_, _, CD.now wp_label, h⟩
theorem W.exit {id n : Nat} {st : St} {Q : Ex → St → Prop} (h : Q (.exit id) st) : W P w0 (.exit id) n st Q := ⟨_, _, CD.now (e := .exit id) wp_exit, h⟩
theorem W.goto {l n : Nat} {st : St} {Q : Ex → St → Prop} (h : Q (.goto l) st) : W P w0 (.goto l) n st Q := ⟨_, _, CD.now (e := .goto l) wp_goto, h⟩
theorem W.ret {n : Nat} {st : St} {Q : Ex → St → Prop} (h : Q .ret st) : W P w0 .ret n st Q := ⟨_, _, CD.now wp_ret, h⟩
/-- What is behind a code's end. -/
def onNormal (next : St → Prop) (Q : Ex → St → Prop) : Ex → St → Prop
  | .normal, st => next st
  | e, st => Q e st
theorem Ex.normal_or (e : Ex) : e = .normal ∨ (e ≠ .normal ∧ ∀ (next : St → Prop) (Q : Ex → St → Prop) st, onNormal next Q e st = Q e st) := by
  cases e
  · exact .inl rfl
  all_goals exact .inr ⟨by simp, fun _ _ _ => rfl⟩
theorem W.seq {a b : Code} {n : Nat} {st : St} {Q : Ex → St → Prop} (h : W P w0 a n st (onNormal (fun st' => W P w0 b n st' Q) Q)) : W P w0 (.seq a b) n st Q := by
  obtain ⟨e, st1, h1, h2⟩ := h
  rcases e.normal_or with rfl | ⟨hne, hq⟩
  · obtain ⟨e2, st2, h3, h4⟩ := h2
    refine ⟨e2, st2, fun ρ a w hs => ?_, h4⟩
    refine wp_seq (wp_mono (h1 ρ a w hs) fun e' a' w' hq => ?_)
    obtain ⟨rfl, ρ', g1, g2⟩ := hq
    exact wp_mono (h3 ρ' a' w' g1) fun e2 a2 w2 ⟨q1, ρ2, q2, q3⟩ => ⟨q1, ρ2, q2, g2.trans q3⟩
  · rw [hq] at h2
    refine ⟨e, st1, fun ρ a w hs => ?_, h2⟩
    refine wp_seq (wp_mono (h1 ρ a w hs) fun e' a' w' hq => ?_)
    obtain ⟨rfl, ρ', g1, g2⟩ := hq
    have : Exit.then (b.wp P (fun e' a' w' => e' = e.toExit ∧ ∃ ρ', SR w0 ρ' n st1 a' w' ∧ Good ρ st.A ρ' st1.A)) (fun e' a' w' => e' = e.toExit ∧ ∃ ρ', SR w0 ρ' n st1 a' w' ∧ Good ρ st.A ρ' st1.A) e.toExit a' w' = (fun e' a' w' => e' = e.toExit ∧ ∃ ρ', SR w0 ρ' n st1 a' w' ∧ Good ρ st.A ρ' st1.A) e.toExit a' w' := by
      cases e
      · exact absurd rfl hne
      all_goals rfl
    rw [this]
    exact ⟨rfl, ρ', g1, g2⟩
theorem W.cond {x : Operand} {t : Bool} {a b : Code} {n : Nat} {st : St} {Q : Ex → St → Prop} (hx : opVal st.fr x = some (.b t)) (h1 : t = true → W P w0 a n st Q) (h2 : t = false → W P w0 b n st Q) : W P w0 (.cond x a b) n st Q := by
  cases t with
  | true =>
    obtain ⟨e, st', g1, g2⟩ := h1 rfl
    refine ⟨e, st', fun ρ a w hs => ?_, g2⟩
    have := hs.fr.ok x _ hx
    simp only [conc, Option.some.injEq] at this
    exact wp_cond this.symm (g1 ρ a w hs)
  | false =>
    obtain ⟨e, st', g1, g2⟩ := h2 rfl
    refine ⟨e, st', fun ρ a w hs => ?_, g2⟩
    have := hs.fr.ok x _ hx
    simp only [conc, Option.some.injEq] at this
    exact wp_cond this.symm (g1 ρ a w hs)
/-- What is behind a block. -/
def onExit (id : Nat) (Q : Ex → St → Prop) : Ex → St → Prop
  | .exit i, st => cond (Nat.beq i id) (Q .normal st) (Q (.exit i) st)
  | e, st => Q e st
theorem W.block {id : Nat} {b : Code} {n : Nat} {st : St} {Q : Ex → St → Prop} (h : W P w0 b n st (onExit id Q)) : W P w0 (.block id b) n st Q := by
  obtain ⟨e, st1, h1, h2⟩ := h
  cases e with
  | exit i =>
    cases hi : Nat.beq i id with
    | true =>
      simp only [onExit, hi, cond_true] at h2
      refine ⟨.normal, st1, fun ρ a w hs => wp_block (wp_mono (h1 ρ a w hs) fun e' a' w' hq => ?_), h2⟩
      obtain ⟨rfl, ρ', g1, g2⟩ := hq
      have : i = id := Nat.eq_of_beq_eq_true hi
      show if i = id then _ else _
      rw [if_pos this]
      exact ⟨rfl, ρ', g1, g2⟩
    | false =>
      simp only [onExit, hi, cond_false] at h2
      refine ⟨.exit i, st1, fun ρ a w hs => wp_block (wp_mono (h1 ρ a w hs) fun e' a' w' hq => ?_), h2⟩
      obtain ⟨rfl, ρ', g1, g2⟩ := hq
      have : i ≠ id := Nat.ne_of_beq_eq_false hi
      show if i = id then _ else _
      rw [if_neg this]
      exact ⟨rfl, ρ', g1, g2⟩
  | normal => exact ⟨_, st1, fun ρ a w hs => wp_block (wp_mono (h1 ρ a w hs) fun e' a' w' ⟨hq, ρ', g1, g2⟩ => by subst hq; exact ⟨rfl, ρ', g1, g2⟩), h2⟩
  | goto l => exact ⟨.goto l, st1, fun ρ a w hs => wp_block (wp_mono (h1 ρ a w hs) fun e' a' w' ⟨hq, ρ', g1, g2⟩ => by subst hq; exact ⟨rfl, ρ', g1, g2⟩), h2⟩
  | ret => exact ⟨.ret, st1, fun ρ a w hs => wp_block (wp_mono (h1 ρ a w hs) fun e' a' w' ⟨hq, ρ', g1, g2⟩ => by subst hq; exact ⟨rfl, ρ', g1, g2⟩), h2⟩
/-- So many rounds. -/
inductive Rounds (P : Program) (w0 : World) (b : Code) (n : Nat) : Nat → St → Ex → St → Prop where
  | last {st : St} {e : Ex} {st' : St} (h : CD P w0 b n st e st') (hne : e ≠ .normal) : Rounds P w0 b n 1 st e st'
  | more {k : Nat} {st st1 : St} {e : Ex} {st' : St} (h : CD P w0 b n st .normal st1) (h' : Rounds P w0 b n k st1 e st') : Rounds P w0 b n (k + 1) st e st'
theorem Rounds.run {b : Code} {n k : Nat} {st : St} {e : Ex} {st' : St} (h : Rounds P w0 b n k st e st') : ∀ ρ a w, SR w0 ρ n st a w → ∀ ρ0 A0, Good ρ0 A0 ρ st.A → Code.rounds P b (OutC w0 n ρ0 A0 e st') k a w := by
  induction h with
  | last h hne =>
    intro ρ a w hs ρ0 A0 hG
    refine wp_mono (h ρ a w hs) fun e' a' w' hq => ?_
    refine then_out (w0 := w0) hq (fun he => absurd he hne) fun _ ρ' g1 g2 => ⟨rfl, ρ', g1, hG.trans g2⟩
  | more h h' ih =>
    intro ρ a w hs ρ0 A0 hG
    refine wp_mono (h ρ a w hs) fun e' a' w' hq => ?_
    exact then_out (w0 := w0) hq (fun _ ρ' g1 g2 => ih ρ' a' w' g1 ρ0 A0 (hG.trans g2)) (fun he => absurd rfl he)
theorem CD.loop {b : Code} {n k : Nat} {st : St} {e : Ex} {st' : St} (h : Rounds P w0 b n k st e st') : CD P w0 (.loop b) n st e st' := fun ρ a w hs =>
  wp_loop_rounds k (h.run ρ a w hs ρ st.A (Good.refl _ _))
/-- ████ A LOOP, by what holds at each round's head and a measure. -/
theorem W.loop {b : Code} {n : Nat} {Q : Ex → St → Prop} (R : Nat → St → Prop) (step : ∀ m st, R m st → W P w0 b n st (onNormal (fun st' => ∃ m', m' < m ∧ R m' st') Q)) :
    ∀ {m : Nat} {st : St}, R m st → W P w0 (.loop b) n st Q := by
  intro m
  induction m using Nat.strongRecOn with
  | ind m ih =>
    intro st hR
    obtain ⟨e, st1, h1, h2⟩ := step m st hR
    rcases e.normal_or with rfl | ⟨hne, hq⟩
    · obtain ⟨m', hlt, hR'⟩ := h2
      -- rounds that follow
      have key : ∀ m st, R m st → ∃ k e st', Rounds P w0 b n k st e st' ∧ Q e st' := by
        intro m
        induction m using Nat.strongRecOn with
        | ind m ih2 =>
          intro st hR
          obtain ⟨e, st1, h1, h2⟩ := step m st hR
          rcases e.normal_or with rfl | ⟨hne, hq⟩
          · obtain ⟨m', hlt, hR'⟩ := h2
            obtain ⟨k, e, st', g1, g2⟩ := ih2 m' hlt st1 hR'
            exact ⟨k + 1, e, st', .more h1 g1, g2⟩
          · rw [hq] at h2
            exact ⟨1, e, st1, .last h1 hne, h2⟩
      obtain ⟨k, e, st', g1, g2⟩ := key m' st1 hR'
      exact ⟨e, st', CD.loop (.more h1 g1), g2⟩
    · rw [hq] at h2
      exact ⟨e, st1, CD.loop (.last h1 hne), h2⟩
theorem W.region {id : Nat} {ops : Array Oper} {n : Nat} {st : St} {Q : Ex → St → Prop} (h : ∃ st', OD P w0 ops ops.toList n st st' ∧ Q .normal st') : W P w0 (.region id ops false) n st Q := by
  obtain ⟨st', h1, h2⟩ := h
  refine ⟨.normal, st', fun ρ a w hs => wp_region ?_, h2⟩
  rw [List.range_eq_range', ← Array.length_toList]
  exact h1 ρ a w 0 _ (fun j => by simp) hs fun a' w' ρ' g1 g2 => ⟨rfl, ρ', g1, g2⟩
theorem W.plan (fit : Fit P exts) {id : Nat} {ops : Array Oper} {n : Nat} {st st' : St} {Q : Ex → St → Prop} {pl : List (Nat × List Nat)} {ihs : Nat → Task → Option Res} (hC : ∀ i, CallOK P w0 (ihs i)) (hpl : planOf P ops.toList = some pl)
    (h : evPlan P exts ihs ops.toList n pl st = some st') (hQ : Q .normal st') : W P w0 (.region id ops true) n st Q :=
  ⟨.normal, st', fun _ _ _ hs => evPlan_run fit.mixed fit.ext fit.num hC hs hpl h fun _ _ ρ' g1 g2 => ⟨rfl, ρ', g1, g2⟩, hQ⟩

/-! ### Calls -/
theorem F.intro {f : Nat} {fn : Func} {c : Code} {vs : List CV} {A : AW} {Q : CV → AW → Prop} (hf : P.funcs[f]? = some fn) (hc : fn.body = some c) {n : Nat} (hn : n = Nat.max fn.ntmps vs.length) (hlim : n < 1000000)
    (h : W P w0 c n ⟨frOf 0 vs .e, A⟩ (fun e st' => (e = .normal ∨ e = .ret) ∧ ∃ l, resA P st'.fr st'.A fn.results.toList = some l ∧ Q (tupA l) st'.A)) : F P w0 f vs A Q := by
  obtain ⟨e, st1, h1, he, l, hl, hQ⟩ := h
  refine ⟨_, _, fun ρ w xs hw hx => ⟨⟨fn, hf, by simp [hc]⟩, ?_⟩, hQ⟩
  refine calls_of_wp hf hc ?_
  have hlen := concL_len hx
  have hs : SR w0 ρ n ⟨frOf 0 vs .e, A⟩ { tmps := xs.toArray ++ Array.replicate (fn.ntmps - xs.toArray.size) undef, defers := [] } w := by
    refine ⟨rfl, ?_, hlim, start_fr hx (Nat.lt_of_le_of_lt (Nat.le_max_right fn.ntmps vs.length) (by rw [hn] at hlim; exact hlim)) _, hw⟩
    simp only [Array.size_append, Array.size_replicate, List.size_toArray]
    rw [hn]
    show _ = max fn.ntmps vs.length
    omega
  refine wp_mono (h1 ρ _ w hs) fun e' a' w' hq => ?_
  obtain ⟨rfl, ρ', g1, g2⟩ := hq
  obtain ⟨z, q1, q2⟩ := results_run (P := P) g1 hl
  have : a'.defers = [] ∧ ∃ z, (results fn a'.tmps).run P w' = .ok z w' ∧ (∃ z' ρ'', Ending.returned z = .returned z' ∧ WR w0 ρ'' st1.A w' ∧ Good ρ A ρ'' st1.A ∧ conc ρ'' (tupA l) = some z') :=
    ⟨g1.defers, z, q2, z, ρ', rfl, g1.wr, g2, q1⟩
  rcases he with rfl | rfl <;> exact this
/-- One call's word. -/
noncomputable def ihOne (f : Nat) (vs : List CV) (A : AW) (v : CV) (A' : AW) : Task → Option Res := fun t =>
  have := Classical.propDecidable (t = .call f vs A)
  if t = .call f vs A then some (.val v A') else none
theorem ihOne_self (f : Nat) (vs : List CV) (A : AW) (v : CV) (A' : AW) : ihOne f vs A v A' (.call f vs A) = some (.val v A') := by simp [ihOne]
theorem ihOne_ok {f : Nat} {vs : List CV} {A : AW} {v : CV} {A' : AW} (h : FD P w0 f vs A v A') : CallOK P w0 (ihOne f vs A v A') := by
  intro f1 vs1 A1 v1 A1' h1 ρ w xs hw hx
  unfold ihOne at h1
  by_cases e : (Task.call f1 vs1 A1) = .call f vs A
  · simp only [e, if_true, Option.some.injEq, Res.val.injEq] at h1
    injection e with e1 e2 e3
    subst e1; subst e2; subst e3
    obtain ⟨rfl, rfl⟩ := h1
    exact h ρ w xs hw hx
  · simp [e] at h1
theorem none_ok : CallOK P w0 (fun _ => none) := fun _ _ _ _ _ h => by cases h
/-- A closed run is a contract. -/
theorem F.closed (fit : Fit P exts) {f : Nat} {vs : List CV} {A A' : AW} {v : CV} (fuel : Nat) (h : ev P exts fuel (.call f vs A) = some (.val v A')) : FD P w0 f vs A v A' :=
  fun ρ w xs hw hx => (ev_ok (w0 := w0) fit.mixed fit.ext fit.num fuel).2.2 f vs A v A' h ρ w xs hw hx

/-! ### Operations -/
theorem OD.nil {ops : Array Oper} {n : Nat} {st : St} : OD P w0 ops [] n st st := fun _ a w _ _ _ hs hQ => hQ a w _ hs (Good.refl _ _)
theorem OD.cons (fit : Fit P exts) {ih : Task → Option Res} (hC : CallOK P w0 ih) {ops : Array Oper} {o : Oper} {l : List Oper} {n : Nat} {st st1 st' : St} (hw : wantedA ops.toList st.fr o = some true) (he : evOp P exts ih n o st = some st1) (h : OD P w0 ops l n st1 st') : OD P w0 ops (o :: l) n st st' := by
  intro ρ a w k Q hl hs hQ
  have h0 : ops[k]? = some o := by simpa using (hl 0).symm
  have hl' : ∀ j, l[j]? = ops[k + 1 + j]? := fun j => by have := hl (j + 1); simpa [Nat.add_assoc, Nat.add_comm 1 j] using this
  simp only [List.length_cons, List.range'_succ, wpOps, h0]
  rw [if_pos (wantedA_run hw hs.fr)]
  refine .inl (evOp_run fit.ext fit.num hC hs he fun a' w' ρ' h1 h2 => ?_)
  exact h ρ' a' w' (k + 1) Q hl' h1 fun a3 w3 ρ3 h3 h4 => hQ a3 w3 ρ3 h3 (h2.trans h4)
theorem OD.pass {ops : Array Oper} {o : Oper} {l : List Oper} {n : Nat} {st st1 st' : St} (hw : wantedA ops.toList st.fr o = some false) (he : doN n o st = some st1) (h : OD P w0 ops l n st1 st') : OD P w0 ops (o :: l) n st st' := by
  intro ρ a w k Q hl hs hQ
  have h0 : ops[k]? = some o := by simpa using (hl 0).symm
  have hl' : ∀ j, l[j]? = ops[k + 1 + j]? := fun j => by have := hl (j + 1); simpa [Nat.add_assoc, Nat.add_comm 1 j] using this
  simp only [List.length_cons, List.range'_succ, wpOps, h0]
  rw [if_neg (by rw [wantedA_run hw hs.fr]; simp)]
  obtain ⟨h1, h2⟩ := doN_run hs he
  exact h ρ _ w (k + 1) Q hl' h1 fun a3 w3 ρ3 h3 h4 => hQ a3 w3 ρ3 h3 (by rw [← h2]; exact h4)

/-! ### What is made and dropped within a call -/
/-- Does a value lead nowhere? -/
def CV.bare : CV → Bool
  | .p _ _ => false
  | .sl _ _ _ => false
  | .se _ _ _ _ => false
  | .so _ _ _ => false
  | .a cs => bareL cs
  | .t cs => bareL cs
  | _ => true
where bareL : List CV → Bool
  | [] => true
  | c :: cs => c.bare && bareL cs
mutual
theorem conc_bare {ρ ρ' : Env} : ∀ (v : CV), v.bare = true → conc ρ v = conc ρ' v
  | .b _, _ | .i _ _, _ | .s _, _ | .np, _ | .ns, _ | .nf, _ | .ni, _ | .fn _, _ => by simp [conc]
  | .p _ _, h | .sl _ _ _, h | .se _ _ _ _, h | .so _ _ _, h => by simp [CV.bare] at h
  | .a cs, h => by simp only [conc]; rw [concL_bare cs (by simpa [CV.bare] using h)]
  | .t cs, h => by simp only [conc]; rw [concL_bare cs (by simpa [CV.bare] using h)]
theorem concL_bare {ρ ρ' : Env} : ∀ (l : List CV), CV.bare.bareL l = true → concL ρ l = concL ρ' l
  | [], _ => rfl
  | c :: cs, h => by
    simp only [CV.bare.bareL, Bool.and_eq_true] at h
    simp only [concL]
    rw [conc_bare c h.1, concL_bare cs h.2]
end
/-- What lies in the memory before a call lies there still. -/
structure Ext' (A A' : AW) : Prop where
  next : A.next ≤ A'.next
  same : ∀ b, b < A.next → A'.heap.get b = A.heap.get b
theorem Ext'.refl (A : AW) : Ext' A A := ⟨Nat.le_refl _, fun _ _ => rfl⟩
theorem Ext'.trans {A B C : AW} (h : Ext' A B) (h' : Ext' B C) : Ext' A C := ⟨Nat.le_trans h.next h'.next, fun b hb => (h'.same b (Nat.lt_of_lt_of_le hb h.next)).trans (h.same b hb)⟩
/-- ████ What a call has made and nobody holds is forgotten. -/
theorem FD.forget {f : Nat} {vs : List CV} {A A' : AW} {v : CV} (h : FD P w0 f vs A v A') (hx : Ext' A A') (hv : v.bare = true) : FD P w0 f vs A v A := by
  intro ρ w xs hw hc
  obtain ⟨h1, h2⟩ := h ρ w xs hw hc
  refine ⟨h1, h2.mono fun e w' ⟨z, ρ', q1, q2, q3, q4⟩ => ⟨z, ρ, q1, ?_, Good.refl _ _, by rw [conc_bare v hv]; exact q4⟩⟩
  have hle : ρ.le ρ' := q3.le hw
  refine ⟨q2.below, hw.dom, hw.dead, fun b ob L hb hL => ?_, hw.inj⟩
  have hlt := hw.lt hb
  obtain ⟨C, f, hB⟩ := q2.blk b ob L (by rw [hx.same b hlt]; exact hb) (hle b L hL)
  obtain ⟨C0, f0, hB0⟩ := hw.blk b ob L hb hL
  refine ⟨C, f, ⟨hB.base, hB.heap, fun j u hj => ?_, hB.froz, hB.esz, hB.room, hB.shz⟩⟩
  obtain ⟨x, e1, e2⟩ := hB.cell j u hj
  obtain ⟨y, e3, _⟩ := hB0.cell j u hj
  have := conc_mono hle u y e3
  rw [e1] at this
  injection this with this
  subst this
  exact ⟨x, e3, e2⟩
theorem F.forget {f : Nat} {vs : List CV} {A : AW} {Q : CV → Prop} (h : F P w0 f vs A (fun v A' => Ext' A A' ∧ v.bare = true ∧ Q v)) : F P w0 f vs A (fun v A' => A' = A ∧ Q v) := by
  obtain ⟨v, A', h1, h2, h3, h4⟩ := h
  exact ⟨v, A, h1.forget h2 h3, rfl, h4⟩
/-- A contract of the kit's, laid. -/
theorem FD.of_calls {f : Nat} {fn : Func} {vs : List CV} {A : AW} {v : CV} (hf : P.funcs[f]? = some fn) (hb : fn.body.isSome = true) (hv : v.bare = true)
    (h : ∀ ρ w xs, WR w0 ρ A w → concL ρ vs = some xs → Calls P f xs.toArray w fun e w' => ∃ z, e = .returned z ∧ Below w.heap.size w w' ∧ conc ρ v = some z) : FD P w0 f vs A v A := by
  intro ρ w xs hw hx
  refine ⟨⟨fn, hf, hb⟩, (h ρ w xs hw hx).mono fun e w' ⟨z, q1, q2, q3⟩ => ⟨z, ρ, q1, ?_, Good.refl _ _, q3⟩⟩
  refine ⟨hw.below.trans (q2.mono hw.below.size), hw.dom, hw.dead, fun b ob L hb hL => ?_, hw.inj⟩
  obtain ⟨C, f, hB⟩ := hw.blk b ob L hb hL
  exact ⟨C, f, ⟨hB.base, by rw [q2.block _ (heap_lt hB.heap)]; exact hB.heap, hB.cell, hB.froz, hB.esz, hB.room, hB.shz⟩⟩
end
end Go.Ce
