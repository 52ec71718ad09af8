/-
  WHAT IS TO BE SHOWN OF A STRETCH OF CODE, reckoned from the code: regions, code, whole functions. Conditions: none.
-/
import Derived.Test.YtcfcagpcaclpkaaGreatDoorCeZ
namespace Go.Ce
open Go Go.RowKit
section
variable (P : Program) (w0 : World) (exts : List (Nat × Ext))
theorem T.up_self {α : Type} (v : α) : ∀ (f : Nat) (t : T α) (k : Nat), k < f → t.get k = some v → T.set f t k (some v) = t := by
  intro f
  induction f with
  | zero => intro t k h; omega
  | succ f ih =>
    intro t k hk h
    cases t with
    | e => rw [T.get_e] at h; cases h
    | n x l r =>
      cases k with
      | zero =>
        simp only [T.get] at h
        simp only [T.set, h]
      | succ k =>
        simp only [T.get] at h
        simp only [T.set]
        cases hb : Nat.beq (k % 2) 0 with
        | true =>
          rw [hb] at h
          simp only [cond_true] at h ⊢
          rw [ih l (k / 2) (by omega) h]
        | false =>
          rw [hb] at h
          simp only [cond_false] at h ⊢
          rw [ih r (k / 2) (by omega) h]
theorem T.up_same {α : Type} {t : T α} {k : Nat} {v : α} (h : t.get k = some v) : t.up k (some v) = t := by
  exact T.up_self v _ t k (Nat.lt_succ_self k) h
/-- An operation that hangs on another one's word. -/
def vcGuard (ol : List Oper) (fr : T CV) (o : Oper) (Kt Kf : T CV → Prop) : Prop := match o.guard with
  | none => Kt fr
  | some (j, want) => match getN ol j with
    | some g => match g.dst with
      | some t => withV (fr.get t) fun v => match v with
        | .b x => vcIf x (cond want (Kt (fr.up t (some (.b true)))) (Kf (fr.up t (some (.b true))))) (cond want (Kf (fr.up t (some (.b false)))) (Kt (fr.up t (some (.b false)))))
        | .t [] => Kf fr
        | _ => False
      | none => False
    | none => False
theorem vcGuard_ok {ol : List Oper} {fr : T CV} {o : Oper} {Kt Kf : T CV → Prop} (h : vcGuard ol fr o Kt Kf) : (wantedA ol fr o = some true ∧ Kt fr) ∨ (wantedA ol fr o = some false ∧ Kf fr) := by
  unfold vcGuard at h
  unfold wantedA
  split at h
  · rename_i hg; simp only [hg]; exact .inl ⟨trivial, h⟩
  · rename_i j want hg
    simp only [hg]
    split at h
    · rename_i g hj
      simp only [hj]
      split at h
      · rename_i t ht
        simp only [ht]
        obtain ⟨v, hv, h⟩ := withV_some h
        simp only [hv]
        split at h
        · rcases vcIf.elim h with ⟨rfl, h1⟩ | ⟨rfl, h1⟩
          · rw [T.up_same hv] at h1
            cases want with
            | true => exact .inl ⟨rfl, h1⟩
            | false => exact .inr ⟨rfl, h1⟩
          · rw [T.up_same hv] at h1
            cases want with
            | true => exact .inr ⟨rfl, h1⟩
            | false => exact .inl ⟨rfl, h1⟩
        · exact .inr ⟨rfl, h⟩
        · exact h.elim
      · exact h.elim
    · exact h.elim
/-- A region in the order of its text. -/
def vcOps (n : Nat) (ol : List Oper) : List Oper → T CV → AW → (T CV → AW → Prop) → Prop
  | [], fr, A, K => K fr A
  | o :: l, fr, A, K => vcGuard ol fr o (fun fr => vcOp P w0 exts o fr A fun v A' => vcPut n o.dst v fr fun fr' => vcOps n ol l fr' A' K) (fun fr => vcPut n o.dst (.t []) fr fun fr' => vcOps n ol l fr' A K)
variable {P w0 exts}
theorem vcOps_ok (fit : Fit P exts) {n : Nat} {ops : Array Oper} {K : T CV → AW → Prop} : ∀ {l : List Oper} {fr : T CV} {A : AW}, vcOps P w0 exts n ops.toList l fr A K → ∃ st', OD P w0 ops l n ⟨fr, A⟩ st' ∧ K st'.fr st'.A
  | [], fr, A, h => ⟨⟨fr, A⟩, .nil, h⟩
  | o :: l, fr, A, h => by
    simp only [vcOps] at h
    rcases vcGuard_ok h with ⟨hw, h1⟩ | ⟨hw, h1⟩
    · obtain ⟨ih, fr', A', hC, h2, h3⟩ := vcOp_ok (K := fun fr' A' => vcOps P w0 exts n ops.toList l fr' A' K) P w0 exts h1
      obtain ⟨st', h4, h5⟩ := vcOps_ok fit h3
      exact ⟨st', .cons fit hC hw h2 h4, h5⟩
    · obtain ⟨fr', h2, h3⟩ := withV_some h1
      obtain ⟨st', h4, h5⟩ := vcOps_ok fit h3
      exact ⟨st', .pass hw (by simp only [doN, h2]) h4, h5⟩
variable (P w0 exts)
/-- What an operation that may still be to come would yield now is what it yielded. -/
def vcStill (ol : List Oper) (fr : T CV) (A : AW) : List Nat → Prop → Prop
  | [], C => C
  | d :: l, C => withV (getN ol d) fun o => match wantedA ol fr o with
    | some true => match o.op with
      | .alloc _ => withV o.dst fun t => withV (fr.get t) fun v => (match v with
        | .p _ _ => vcStill ol fr A l C
        | _ => False)
      | op => match o.dst with
        | some t => withV (fr.get t) fun v => (vcQ P op o.type fr A fun u => u = v) ∧ vcStill ol fr A l C
        | none => (vcQ P op o.type fr A fun _ => True) ∧ vcStill ol fr A l C
    | some false => match o.dst with
      | some t => withV (fr.get t) fun v => (match v with
        | .t [] => vcStill ol fr A l C
        | _ => False)
      | none => vcStill ol fr A l C
    | none => False
theorem vcStill_ok {ol : List Oper} {fr : T CV} {A : AW} : ∀ {l : List Nat} {C : Prop}, vcStill P ol fr A l C → still P ol ⟨fr, A⟩ l = true ∧ C
  | [], C, h => ⟨rfl, h⟩
  | d :: l, C, h => by
    simp only [vcStill] at h
    obtain ⟨o, h1, h⟩ := withV_some h
    simp only [still, h1, Bool.and_eq_true]
    cases hw : wantedA ol fr o with
    | none => simp only [hw] at h
    | some b =>
      cases b with
      | true =>
        simp only [hw] at h ⊢
        split at h
        · rename_i e he
          simp only [he]
          obtain ⟨t, h2, h⟩ := withV_some h
          obtain ⟨v, h3, h⟩ := withV_some h
          simp only [h2, h3]
          split at h
          · obtain ⟨g1, g2⟩ := vcStill_ok h; exact ⟨⟨rfl, g1⟩, g2⟩
          · exact h.elim
        · rename_i hne
          split at h
          · rename_i t ht
            obtain ⟨v, h3, h4, h⟩ := withV_some h
            obtain ⟨u, h5, rfl⟩ := vcQ_ok P h4
            obtain ⟨g1, g2⟩ := vcStill_ok h
            refine ⟨⟨?_, g1⟩, g2⟩
            simp only [ht, h5, h3]
            exact ceq_refl _
          · rename_i ht
            obtain ⟨h4, h⟩ := h
            obtain ⟨v, h5, _⟩ := vcQ_ok P h4
            obtain ⟨g1, g2⟩ := vcStill_ok h
            refine ⟨⟨?_, g1⟩, g2⟩
            simp only [ht, h5]
      | false =>
        simp only [hw] at h ⊢
        split at h
        · rename_i t ht
          obtain ⟨v, h3, h⟩ := withV_some h
          simp only [ht, h3]
          split at h
          · obtain ⟨g1, g2⟩ := vcStill_ok h; exact ⟨⟨rfl, g1⟩, g2⟩
          · exact h.elim
        · rename_i ht
          simp only [ht]
          obtain ⟨g1, g2⟩ := vcStill_ok h; exact ⟨⟨trivial, g1⟩, g2⟩
/-- A region that draws its order, by a plan. -/
def vcPlan (n : Nat) (ol : List Oper) : List (Nat × List Nat) → T CV → AW → (T CV → AW → Prop) → Prop
  | [], fr, A, K => K fr A
  | (i, re) :: l, fr, A, K => withV (getN ol i) fun o => cond (l.any fun p => Nat.beq p.1 i) False (vcGuard ol fr o
    (fun fr => vcOp P w0 exts o fr A fun v A' => vcPut n o.dst v fr fun fr' => cond (isW P o || isAl o.op) (vcStill P ol fr' A' re (vcPlan n ol l fr' A' K)) (vcPlan n ol l fr' A' K))
    (fun fr => vcPut n o.dst (.t []) fr fun fr' => cond (isW P o || isAl o.op) (vcStill P ol fr' A re (vcPlan n ol l fr' A K)) (vcPlan n ol l fr' A K)))
theorem evPlan_congr {ihs ihs' : Nat → Task → Option Res} {ol : List Oper} {n : Nat} : ∀ {l : List (Nat × List Nat)} {st : St}, (∀ p ∈ l, ihs p.1 = ihs' p.1) → evPlan P exts ihs ol n l st = evPlan P exts ihs' ol n l st
  | [], st, _ => rfl
  | (i, re) :: l, st, h => by
    have h0 : ihs i = ihs' i := h (i, re) (by simp)
    have ih : ∀ st, evPlan P exts ihs ol n l st = evPlan P exts ihs' ol n l st := fun st => evPlan_congr fun p hp => h p (by simp [hp])
    simp only [evPlan, h0, ih]
variable {P w0 exts}
theorem vcPlan_ok {n : Nat} {ol : List Oper} {K : T CV → AW → Prop} : ∀ {l : List (Nat × List Nat)} {fr : T CV} {A : AW}, vcPlan P w0 exts n ol l fr A K → ∃ ihs st', (∀ i, CallOK P w0 (ihs i)) ∧ evPlan P exts ihs ol n l ⟨fr, A⟩ = some st' ∧ K st'.fr st'.A
  | [], fr, A, h => ⟨fun _ _ => none, ⟨fr, A⟩, fun _ => none_ok, rfl, h⟩
  | (i, re) :: l, fr, A, h => by
    simp only [vcPlan] at h
    obtain ⟨o, h1, h⟩ := withV_some h
    have h0 : (l.any fun p => Nat.beq p.1 i) = false := by
      cases h0 : (l.any fun p => Nat.beq p.1 i) with
      | false => rfl
      | true => rw [h0] at h; exact h.elim
    rw [h0, cond_false] at h
    have key : ∀ fr' A', cond (isW P o || isAl o.op) (vcStill P ol fr' A' re (vcPlan P w0 exts n ol l fr' A' K)) (vcPlan P w0 exts n ol l fr' A' K) → (!(isW P o || isAl o.op) || still P ol ⟨fr', A'⟩ re) = true ∧ vcPlan P w0 exts n ol l fr' A' K := by
      intro fr' A' hc
      cases hb : (isW P o || isAl o.op) with
      | true => rw [hb] at hc; obtain ⟨g1, g2⟩ := vcStill_ok P hc; exact ⟨by rw [g1]; simp, g2⟩
      | false => rw [hb] at hc; exact ⟨rfl, hc⟩
    have hni : ∀ p ∈ l, p.1 ≠ i := by
      intro p hp e
      have : (l.any fun p => Nat.beq p.1 i) = true := List.any_eq_true.2 ⟨p, hp, (beqN_iff _ _).2 e⟩
      rw [h0] at this
      cases this
    rcases vcGuard_ok h with ⟨hw, h2⟩ | ⟨hw, h2⟩
    · obtain ⟨ih, fr', A', hC, h3, h4⟩ := vcOp_ok (K := fun fr' A' => cond (isW P o || isAl o.op) (vcStill P ol fr' A' re (vcPlan P w0 exts n ol l fr' A' K)) (vcPlan P w0 exts n ol l fr' A' K)) P w0 exts h2
      obtain ⟨g1, g2⟩ := key _ _ h4
      obtain ⟨ihs, st', k1, k2, k3⟩ := vcPlan_ok g2
      refine ⟨fun j => if j = i then ih else ihs j, st', fun j => ?_, ?_, k3⟩
      · by_cases e : j = i
        · simp only [e, if_true]; exact hC
        · simp only [e, if_false]; exact k1 j
      · simp only [evPlan, h1, hw, if_true, h3, g1, cond_true]
        rw [evPlan_congr P exts (ihs' := ihs) fun p hp => by simp only [if_neg (hni p hp)]]
        exact k2
    · obtain ⟨fr', h3, h4⟩ := withV_some h2
      obtain ⟨g1, g2⟩ := key _ _ h4
      obtain ⟨ihs, st', k1, k2, k3⟩ := vcPlan_ok g2
      refine ⟨ihs, st', k1, ?_, k3⟩
      simp only [evPlan, h1, hw, doN, h3, g1, cond_true]
      exact k2

/-! ### Code -/
def prune (fr : T CV) : List Nat → List (Nat × CV)
  | [] => []
  | t :: l => match fr.get t with
    | some v => (t, v) :: prune fr l
    | none => prune fr l
theorem prune_fr (fr : T CV) : ∀ l, Fr fr (prune fr l)
  | [] => trivial
  | t :: l => by
    simp only [prune]
    split
    · rename_i v hv; exact ⟨hv, prune_fr fr l⟩
    · exact prune_fr fr l
/-- The first stretch's mark. -/
def mark : Code → Option Nat
  | .region id _ _ => some (2 * id)
  | .block id _ => some (2 * id + 1)
  | .seq a _ => mark a
  | _ => none
def stopAt : List (Nat × List Nat) → Option Nat → Option (List Nat)
  | [], _ => none
  | (i, l) :: r, m => match m with
    | none => none
    | some j => cond (Nat.beq i j) (some l) (stopAt r m)
/-- Does code hold a mark that is named? -/
def hasStop (stops : List (Nat × List Nat)) : Code → Bool
  | .seq a b => hasStop stops a || hasStop stops b
  | .cond _ a b => hasStop stops a || hasStop stops b
  | .block id b => (stopAt stops (some (2 * id + 1))).isSome || hasStop stops b
  | .region id _ _ => (stopAt stops (some (2 * id))).isSome
  | _ => false
variable (P w0 exts)
/-- What is to be shown of code: at a mark that is named it stops. -/
def vcC (n : Nat) (stops : List (Nat × List Nat)) : Code → T CV → AW → (Ex → St → Prop) → Prop
  | .skip, fr, A, K => K .normal ⟨fr, A⟩
  | .label _, fr, A, K => K .normal ⟨fr, A⟩
  | .exit id, fr, A, K => K (.exit id) ⟨fr, A⟩
  | .goto l, fr, A, K => K (.goto l) ⟨fr, A⟩
  | .ret, fr, A, K => K .ret ⟨fr, A⟩
  | .seq a b, fr, A, K => match stopAt stops (mark a) with
    | some live => ∀ fr', Fr fr' (prune fr live) → W P w0 (.seq a b) n ⟨fr', A⟩ K
    | none => cond (hasStop stops a) (vcC n stops a fr A (onNormal (fun st => W P w0 b n st K) K)) (vcC n stops a fr A (onNormal (fun st => vcC n stops b st.fr st.A K) K))
  | .cond x a b, fr, A, K => withV (opVal fr x) fun v => match v with
    | .b t => vcIf t (vcC n stops a fr A K) (vcC n stops b fr A K)
    | _ => False
  | .block id b, fr, A, K => match stopAt stops (some (2 * id + 1)) with
    | some live => ∀ fr', Fr fr' (prune fr live) → W P w0 (.block id b) n ⟨fr', A⟩ K
    | none => vcC n stops b fr A (onExit id K)
  | .region id ops draw, fr, A, K => match stopAt stops (some (2 * id)) with
    | some live => ∀ fr', Fr fr' (prune fr live) → W P w0 (.region id ops draw) n ⟨fr', A⟩ K
    | none => cond draw (withV (planOf P ops.toList) fun pl => vcPlan P w0 exts n ops.toList pl fr A (fun fr A => K .normal ⟨fr, A⟩)) (vcOps P w0 exts n ops.toList ops.toList fr A (fun fr A => K .normal ⟨fr, A⟩))
  | .loop b, fr, A, K => W P w0 (.loop b) n ⟨fr, A⟩ K
  | _, _, _, _ => False
variable {P w0 exts}
theorem vcC_ok (fit : Fit P exts) {n : Nat} {stops : List (Nat × List Nat)} : ∀ {c : Code} {fr : T CV} {A : AW} {K : Ex → St → Prop}, vcC P w0 exts n stops c fr A K → W P w0 c n ⟨fr, A⟩ K := by
  intro c
  induction c with
  | skip => intro fr A K h; exact W.skip h
  | label l => intro fr A K h; exact W.label h
  | exit id => intro fr A K h; exact W.exit h
  | goto l => intro fr A K h; exact W.goto h
  | ret => intro fr A K h; exact W.ret h
  | seq a b iha ihb =>
    intro fr A K h
    simp only [vcC] at h
    split at h
    · exact h fr (prune_fr fr _)
    · cases hs : hasStop stops a with
      | true => rw [hs] at h; exact W.seq (iha h)
      | false =>
        rw [hs] at h
        refine W.seq ((iha h).mono fun e st' hq => ?_)
        cases e
        · exact ihb hq
        all_goals exact hq
  | cond x a b iha ihb =>
    intro fr A K h
    simp only [vcC] at h
    obtain ⟨v, h1, h⟩ := withV_some h
    split at h
    · rcases vcIf.elim h with ⟨rfl, h2⟩ | ⟨rfl, h2⟩
      · exact W.cond h1 (fun _ => iha h2) (fun e => by cases e)
      · exact W.cond h1 (fun e => by cases e) (fun _ => ihb h2)
    · exact h.elim
  | block id b ih =>
    intro fr A K h
    simp only [vcC] at h
    split at h
    · exact h fr (prune_fr fr _)
    · exact W.block (ih h)
  | region id ops draw =>
    intro fr A K h
    simp only [vcC] at h
    split at h
    · exact h fr (prune_fr fr _)
    · cases draw with
      | true =>
        obtain ⟨pl, h1, h⟩ := withV_some h
        obtain ⟨ihs, st', h2, h3, h4⟩ := vcPlan_ok h
        exact W.plan fit h2 h1 h3 h4
      | false => exact W.region (vcOps_ok fit h)
  | loop b => intro fr A K h; exact h
  | _ => intro fr A K h; exact h.elim
/-- ████ A for LOOP. -/
def forPost (id : Nat) (R : Nat → T CV → AW → Prop) (m : Nat) (K : Ex → St → Prop) (e : Ex) (st : St) : Prop := match e with
  | .normal => ∃ m', m' < m ∧ R m' st.fr st.A
  | .exit i => cond (Nat.beq i id) (K .normal st) (K (.exit i) st)
  | e => K e st
theorem W.for_ {id : Nat} {b : Code} {n : Nat} {K : Ex → St → Prop} (R : Nat → T CV → AW → Prop) {m : Nat} {fr : T CV} {A : AW} (h0 : R m fr A)
    (step : ∀ m fr A, R m fr A → W P w0 b n ⟨fr, A⟩ (forPost id R m K)) : W P w0 (.block id (.loop b)) n ⟨fr, A⟩ K := by
  refine W.block (W.loop (fun m st => R m st.fr st.A) (fun m st hR => ?_) (m := m) (st := ⟨fr, A⟩) h0)
  refine (step m st.fr st.A hR).mono fun e st' hq => ?_
  cases e <;> exact hq
theorem W.for_seq {id : Nat} {b rest : Code} {n : Nat} {K : Ex → St → Prop} (R : Nat → T CV → AW → Prop) {m : Nat} {fr : T CV} {A : AW} (h0 : R m fr A)
    (step : ∀ m fr A, R m fr A → W P w0 b n ⟨fr, A⟩ (forPost id R m (onNormal (fun st => W P w0 rest n st K) K))) : W P w0 (.seq (.block id (.loop b)) rest) n ⟨fr, A⟩ K :=
  W.seq (W.for_ R h0 step)
/-! ### A function's end -/
def vcRes (P : Program) : List ResultVar → T CV → AW → (List CV → Prop) → Prop
  | [], _, _, R => R []
  | .tmp t :: l, fr, A, R => withV (fr.get t) fun v => vcRes P l fr A fun vs => R (v :: vs)
  | .cell a t :: l, fr, A, R => withV (fr.get a) fun p => vcPtr p fun b o => shaped (P.underlying t) fun x => loadA P A t b o = some x ∧ vcRes P l fr A fun vs => R (x :: vs)
theorem vcRes_ok : ∀ {l : List ResultVar} {fr : T CV} {A : AW} {R : List CV → Prop}, vcRes P l fr A R → ∃ vs, resA P fr A l = some vs ∧ R vs
  | [], fr, A, R, h => ⟨[], rfl, h⟩
  | .tmp t :: l, fr, A, R, h => by
    obtain ⟨v, h1, h⟩ := withV_some h
    obtain ⟨vs, h2, h3⟩ := vcRes_ok h
    exact ⟨v :: vs, by simp only [resA, h1, h2], h3⟩
  | .cell a t :: l, fr, A, R, h => by
    obtain ⟨p, h1, hp⟩ := withV_some h
    obtain ⟨b, o, rfl, h5⟩ := vcPtr_some hp
    obtain ⟨x, h2, h⟩ := shaped_some h5
    obtain ⟨vs, h3, h4⟩ := vcRes_ok h
    exact ⟨x :: vs, by simp only [resA, h1, h2, h3], h4⟩
/-- What is asked at a function's end. -/
def endF (P : Program) (rs : List ResultVar) (Q : CV → AW → Prop) (e : Ex) (st : St) : Prop := match e with
  | .normal => vcRes P rs st.fr st.A fun l => Q (tupA l) st.A
  | .ret => vcRes P rs st.fr st.A fun l => Q (tupA l) st.A
  | _ => False
/-- Code up to a function's end. -/
def WF (P : Program) (w0 : World) (rs : List ResultVar) (c : Code) (n : Nat) (fr : T CV) (A : AW) (Q : CV → AW → Prop) : Prop := W P w0 c n ⟨fr, A⟩ (endF P rs Q)
theorem F.body {f : Nat} {fn : Func} {c : Code} {vs : List CV} {A : AW} {Q : CV → AW → Prop} {n : Nat} {rs : List ResultVar} (hf : P.funcs[f]? = some fn) (hc : fn.body = some c) (hr : fn.results.toList = rs) (hn : n = Nat.max fn.ntmps vs.length) (hlim : Nat.blt n 1000000 = true)
    (h : WF P w0 rs c n (frOf 0 vs .e) A Q) : F P w0 f vs A Q := by
  refine F.intro hf hc hn ((blt_iff _ _).1 hlim) (W.mono h fun e st' hq => ?_)
  cases e with
  | normal => obtain ⟨l, h1, h2⟩ := vcRes_ok hq; exact ⟨.inl rfl, l, by rw [hr]; exact h1, h2⟩
  | ret => obtain ⟨l, h1, h2⟩ := vcRes_ok hq; exact ⟨.inr rfl, l, by rw [hr]; exact h1, h2⟩
  | exit i => exact hq.elim
  | goto l => exact hq.elim
theorem WF.of (fit : Fit P exts) {n : Nat} {stops : List (Nat × List Nat)} {rs : List ResultVar} {c : Code} {l : List (Nat × CV)} {fr : T CV} {A : AW} {Q : CV → AW → Prop} (hfr : Fr fr l)
    (h : vcC P w0 exts n stops c (mkFr l) A (endF P rs Q)) : WF P w0 rs c n fr A Q := W.frame hfr (vcC_ok fit h)
theorem WF.for_ {rs : List ResultVar} {Q : CV → AW → Prop} {id : Nat} {b rest : Code} {n : Nat} (R : Nat → T CV → AW → Prop) {m : Nat} {fr : T CV} {A : AW} (h0 : R m fr A)
    (step : ∀ m fr A, R m fr A → W P w0 b n ⟨fr, A⟩ (forPost id R m (onNormal (fun st => W P w0 rest n st (endF P rs Q)) (endF P rs Q)))) : WF P w0 rs (.seq (.block id (.loop b)) rest) n fr A Q :=
  W.for_seq R h0 step
/-- What is handed on at the end of a stretch: the places that are named. -/
def leaf (live : Ex → List Nat) (K : Ex → St → Prop) (e : Ex) (st : St) : Prop := ∀ fr', Fr fr' (prune st.fr (live e)) → K e ⟨fr', st.A⟩
theorem W.of (fit : Fit P exts) {n : Nat} {stops : List (Nat × List Nat)} (live : Ex → List Nat) {c : Code} {l : List (Nat × CV)} {fr : T CV} {A : AW} {K : Ex → St → Prop} (hfr : Fr fr l)
    (h : vcC P w0 exts n stops c (mkFr l) A (leaf live K)) : W P w0 c n ⟨fr, A⟩ K :=
  W.frame hfr ((vcC_ok fit h).mono fun _ st' hq => hq st'.fr (prune_fr _ _))
theorem prune_of {fr : T CV} : ∀ {l : List (Nat × CV)}, Fr fr l → prune fr (l.map Prod.fst) = l
  | [], _ => rfl
  | (t, v) :: l, h => by simp only [List.map_cons, prune, h.1, prune_of h.2]
theorem leaf_of {live : Ex → List Nat} {K : Ex → St → Prop} {e : Ex} {fr : T CV} {A : AW} {l : List (Nat × CV)} (h : Fr fr l) (hl : l.map Prod.fst = live e) (hK : ∀ fr', Fr fr' l → K e ⟨fr', A⟩) : leaf live K e ⟨fr, A⟩ := by
  intro fr' hf
  rw [← hl, prune_of h] at hf
  exact hK fr' hf
end
end Go.Ce
