/-
  A CLOSED EVALUATOR FOR THE MODEL: the other quiet operations. Conditions: none.
-/
import Derived.Test.YtcfcagpcaclpkaaGreatDoorCeC
namespace Go.Ce
open Go Go.RowKit

section
variable {P : Program} {w0 : World} {ρ : Env} {A : AW} {w : World}
set_option maxHeartbeats 1000000 in
theorem eqA_run' (d : Nat) {t : TypeId} {x y : CV} {r : Bool} (h : eqA P t x y = some r) {X Y : Value} (hX : conc ρ x = some X) (hY : conc ρ y = some Y) :
    (Op.equalIn (d + 1) t X Y).run P w = .ok r w ∧ (∀ z, X ≠ .agg z) ∧ X ≠ .nilIface := by
  unfold eqA at h
  cases hu : P.underlying t with
  | none => simp [hu] at h
  | some d =>
    cases d <;> cases x <;> cases y <;> simp [hu] at h
    case bool.b.b a b =>
      subst h
      simp only [conc, Option.some.injEq] at hX hY
      subst hX; subst hY
      refine ⟨?_, by simp, by simp⟩
      simp only [Op.equalIn, Sem.run_bind, run_underlying hu, Result.andThen_ok]
      cases a <;> cases b <;> rfl
    case pointer.np.np e =>
      subst h
      simp only [conc, Option.some.injEq] at hX hY
      subst hX; subst hY
      exact ⟨by simp [Op.equalIn, run_underlying hu], by simp, by simp⟩
    case pointer.np.p e b o =>
      subst h
      simp only [conc, Option.some.injEq] at hX hY
      cases hb : ρ b <;> simp [hb] at hY
      subst hX; subst hY
      exact ⟨by simp [Op.equalIn, run_underlying hu], by simp, by simp⟩
    case pointer.p.np e b o =>
      subst h
      simp only [conc, Option.some.injEq] at hX hY
      cases hb : ρ b <;> simp [hb] at hX
      subst hX; subst hY
      exact ⟨by simp [Op.equalIn, run_underlying hu], by simp, by simp⟩
    case pointer.p.p e b o b' o' =>
      cases hn : sizeP P e with
      | none => simp [hn] at h
      | some n =>
        simp only [hn] at h
        cases hc : (Nat.beq b b' && !Nat.beq n 0) with
        | false => rw [hc] at h; cases h
        | true =>
          rw [hc] at h
          simp only [cond_true, Option.some.injEq] at h
          rw [Bool.and_eq_true, beqN_iff] at hc
          obtain ⟨rfl, hn0⟩ := hc
          have hn0 : n ≠ 0 := fun e => by rw [← beqN_iff] at e; rw [e] at hn0; cases hn0
          simp only [conc] at hX hY
          cases hb : ρ b with
          | none => simp [hb] at hX
          | some L =>
            simp only [hb, Option.some.injEq] at hX hY
            subst hX; subst hY; subst h
            refine ⟨?_, by simp, by simp⟩
            simp only [Op.equalIn, Sem.run_bind, run_underlying hu, Result.andThen_ok, sizeOf_run hn]
            simp only [ne_eq, hn0, not_false_eq_true, if_true, sameAddr, beq_self_eq_true]
            have : ((⟨L.blk, L.sh + o, none⟩ : Addr) == ⟨L.blk, L.sh + o', none⟩) = Nat.beq o o' := by
              rw [Bool.eq_iff_iff, beq_iff_eq, beqN_iff]
              simp
            rw [this]; rfl
    case slice.ns.ns e =>
      subst h
      simp only [conc, Option.some.injEq] at hX hY
      subst hX; subst hY
      exact ⟨by simp [Op.equalIn, run_underlying hu], by simp, by simp⟩
    case slice.ns.sl e b n k =>
      subst h
      simp only [conc, Option.some.injEq] at hX hY
      cases hb : ρ b <;> simp [hb] at hY
      subst hX; obtain ⟨_, rfl⟩ := hY
      exact ⟨by simp [Op.equalIn, run_underlying hu], by simp, by simp⟩
    case slice.ns.se e b n k c =>
      subst h
      simp only [conc, Option.some.injEq] at hX hY
      cases hb : ρ b <;> simp [hb] at hY
      subst hX; obtain ⟨_, rfl⟩ := hY
      exact ⟨by simp [Op.equalIn, run_underlying hu], by simp, by simp⟩
    case slice.sl.ns e b n k =>
      subst h
      simp only [conc, Option.some.injEq] at hX hY
      cases hb : ρ b <;> simp [hb] at hX
      subst hY; obtain ⟨_, rfl⟩ := hX
      exact ⟨by simp [Op.equalIn, run_underlying hu], by simp, by simp⟩
    case slice.se.ns e b n k c =>
      subst h
      simp only [conc, Option.some.injEq] at hX hY
      cases hb : ρ b <;> simp [hb] at hX
      subst hY; obtain ⟨_, rfl⟩ := hX
      exact ⟨by simp [Op.equalIn, run_underlying hu], by simp, by simp⟩
    case slice.ns.so e b n k =>
      subst h
      simp only [conc, Option.some.injEq] at hX hY
      cases hb : ρ b <;> simp [hb] at hY
      subst hX; obtain ⟨_, rfl⟩ := hY
      exact ⟨by simp [Op.equalIn, run_underlying hu], by simp, by simp⟩
    case slice.so.ns e b n k =>
      subst h
      simp only [conc, Option.some.injEq] at hX hY
      cases hb : ρ b <;> simp [hb] at hX
      subst hY; obtain ⟨_, rfl⟩ := hX
      exact ⟨by simp [Op.equalIn, run_underlying hu], by simp, by simp⟩
    case func.nf.nf =>
      subst h
      simp only [conc, Option.some.injEq] at hX hY
      subst hX; subst hY
      exact ⟨by simp [Op.equalIn, run_underlying hu], by simp, by simp⟩
    case func.nf.fn =>
      subst h
      simp only [conc, Option.some.injEq] at hX hY
      subst hX; subst hY
      exact ⟨by simp [Op.equalIn, run_underlying hu], by simp, by simp⟩
    case func.fn.nf =>
      subst h
      simp only [conc, Option.some.injEq] at hX hY
      subst hX; subst hY
      exact ⟨by simp [Op.equalIn, run_underlying hu], by simp, by simp⟩
theorem eqA_run {t : TypeId} {x y : CV} {r : Bool} (h : eqA P t x y = some r) {X Y : Value} (hX : conc ρ x = some X) (hY : conc ρ y = some Y) :
    (Op.equal t X Y).run P w = .ok r w ∧ (∀ z, X ≠ .agg z) ∧ X ≠ .nilIface := eqA_run' 9999 h hX hY
end
theorem conc_p {ρ : Env} {b o : Nat} {X : Value} (h : conc ρ (.p b o) = some X) : ∃ L, ρ b = some L ∧ X = .pointer (some ⟨L.blk, L.sh + o, none⟩) := by
  simp only [conc] at h
  cases hb : ρ b <;> simp [hb] at h
  exact ⟨_, rfl, h.symm⟩
theorem conc_sl {ρ : Env} {b n k : Nat} {X : Value} (h : conc ρ (.sl b n k) = some X) : ∃ L, ρ b = some L ∧ n + k ≤ L.cap ∧ X = .slice (some ⟨L.blk, L.sh + k * L.esz, none⟩) n (L.cap - k) := by
  simp only [conc] at h
  cases hb : ρ b <;> simp [hb] at h
  exact ⟨_, rfl, h.1, h.2.symm⟩
theorem conc_so {ρ : Env} {b k0 k : Nat} {X : Value} (h : conc ρ (.so b k0 k) = some X) : ∃ L, ρ b = some L ∧ k ≤ L.cap ∧ X = .slice (some ⟨L.blk, L.sh + (if k = L.cap then k0 else k) * L.esz, none⟩) 0 (L.cap - k) := by
  simp only [conc] at h
  cases hb : ρ b with
  | none => simp [hb] at h
  | some L =>
    simp only [hb] at h
    by_cases hc : k ≤ L.cap
    · rw [if_pos hc] at h; simp only [Option.some.injEq] at h; exact ⟨L, rfl, hc, h.symm⟩
    · rw [if_neg hc] at h; cases h
theorem conc_se {ρ : Env} {b o n c : Nat} {X : Value} (h : conc ρ (.se b o n c) = some X) : ∃ L, ρ b = some L ∧ n ≤ c ∧ X = .slice (some ⟨L.blk, L.sh + o, none⟩) n c := by
  simp only [conc] at h
  cases hb : ρ b <;> simp [hb] at h
  exact ⟨_, rfl, h.1, h.2.symm⟩

/-- What a binary operation is when its operands are no two numbers and no two texts. -/
def plainPair : CV → CV → Bool
  | .i _ _, .i _ _ => false
  | .s _, .s _ => false
  | _, _ => true
section
variable {P : Program} {w0 : World} {ρ : Env} {A : AW} {w : World}
theorem binOp_eql {t : TypeId} {x y : CV} {r : Bool} (h : eqA P t x y = some r) {X Y : Value} (hX : conc ρ x = some X) (hY : conc ρ y = some Y) :
    binOp .eql t X Y = (do pure (.bool (← Op.equal t X Y))) ∧ binOp .neq t X Y = (do pure (.bool (!(← Op.equal t X Y)))) := by
  unfold eqA at h
  cases hu : P.underlying t with
  | none => simp [hu] at h
  | some d =>
    cases d <;> cases x <;> cases y <;> simp [hu] at h
    all_goals
      first
        | (obtain ⟨L, _, rfl⟩ := conc_p hX)
        | (obtain ⟨L, _, _, rfl⟩ := conc_sl hX)
        | (obtain ⟨L, _, _, rfl⟩ := conc_se hX)
        | (obtain ⟨L, _, _, rfl⟩ := conc_so hX)
        | (simp only [conc, Option.some.injEq] at hX; subst hX)
    all_goals
      first
        | (obtain ⟨L, _, rfl⟩ := conc_p hY; exact ⟨rfl, rfl⟩)
        | (obtain ⟨L, _, _, rfl⟩ := conc_sl hY; exact ⟨rfl, rfl⟩)
        | (obtain ⟨L, _, _, rfl⟩ := conc_se hY; exact ⟨rfl, rfl⟩)
        | (obtain ⟨L, _, _, rfl⟩ := conc_so hY; exact ⟨rfl, rfl⟩)
        | (simp only [conc, Option.some.injEq] at hY; subst hY; exact ⟨rfl, rfl⟩)
def eqPart (P : Program) (op : BinOp) (t : TypeId) (x y : CV) : Option CV := match op with
  | .eql => match eqA P t x y with
    | some r => some (.b r)
    | none => none
  | .neq => match eqA P t x y with
    | some r => some (.b (!r))
    | none => none
  | _ => none
theorem binA_plain {P : Program} {op : BinOp} {t : TypeId} {x y : CV} (hp : plainPair x y = true) : binA P op t x y = eqPart P op t x y := by
  cases x <;> cases y <;> first | rfl | (simp [plainPair] at hp; done)
theorem binA_run {op : BinOp} {t : TypeId} {x y v : CV} (h : binA P op t x y = some v) {X Y : Value} (hX : conc ρ x = some X) (hY : conc ρ y = some Y) (ox oy : Operand) :
    ∃ z, conc ρ v = some z ∧ (binOp op t X Y).run P w = .ok z w ∧ (eqGuard op t ox oy X Y).run P w = .ok () w := by
  by_cases hp : plainPair x y = true
  · have h' := h
    rw [binA_plain hp] at h'
    unfold eqPart at h'
    cases op <;> simp only [reduceCtorEq] at h'
    · cases he : eqA P t x y with
      | none => simp [he] at h'
      | some r =>
        simp only [he, Option.some.injEq] at h'
        subst h'
        obtain ⟨h1, h2, h3⟩ := eqA_run (w := w) he hX hY
        refine ⟨_, rfl, ?_, eqGuard_run w _ t ox oy h2 h3⟩
        rw [(binOp_eql he hX hY).1]
        simp [h1]
    · cases he : eqA P t x y with
      | none => simp [he] at h'
      | some r =>
        simp only [he, Option.some.injEq] at h'
        subst h'
        obtain ⟨h1, h2, h3⟩ := eqA_run (w := w) he hX hY
        refine ⟨_, rfl, ?_, eqGuard_run w _ t ox oy h2 h3⟩
        rw [(binOp_eql he hX hY).2]
        simp [h1]
  · cases x <;> cases y <;> simp [plainPair] at hp
    case i.i k m k' n =>
      simp only [conc, Option.some.injEq] at hX hY
      subst hX; subst hY
      simp only [binA] at h
      cases hs : isShift op with
      | true =>
        rw [hs] at h
        obtain ⟨z, h1, h2⟩ := shift_run (P := P) (ρ := ρ) w (k' := k') h hs t
        exact ⟨z, h1, h2, eqGuard_run w _ t ox oy (by simp) (by simp)⟩
      | false =>
        rw [hs] at h
        simp only [cond_false] at h
        cases hk : keq k k' with
        | false => rw [hk] at h; cases h
        | true =>
          rw [hk] at h
          obtain rfl := (keq_iff k k').1 hk
          obtain ⟨z, h1, h2, h3⟩ := intBin_run (P := P) (ρ := ρ) w h hs
          exact ⟨z, h1, by rw [h3]; exact h2, eqGuard_run w _ t ox oy (by simp) (by simp)⟩
    case s.s l m =>
      obtain ⟨z, h1, h2⟩ := strBin_run (P := P) w (op := op) (l := l) (m := m) h hX hY t
      obtain ⟨_, rfl⟩ := conc_s hX
      exact ⟨z, h1, h2, eqGuard_run w _ t ox oy (by simp) (by simp)⟩
theorem unA_run {op : UnOp} {x v : CV} (h : unA op x = some v) {X : Value} (hX : conc ρ x = some X) : ∃ z, conc ρ v = some z ∧ (Op.unary op X).run P w = .ok z w := by
  cases op <;> cases x <;> simp only [unA, reduceCtorEq] at h <;> simp only [conc, Option.some.injEq] at hX <;> subst hX
  case not.b a => simp only [Option.some.injEq] at h; subst h; exact ⟨_, rfl, rfl⟩
  case neg.i k n =>
    simp only [Option.some.injEq] at h
    subst h
    rw [mkI_eq, wrapF_eq]
    exact ⟨_, rfl, rfl⟩
  case xor.i k n =>
    simp only [intBin, Option.some.injEq] at h
    subst h
    rw [mkI_eq]
    exact ⟨_, rfl, rfl⟩
end
end Go.Ce
