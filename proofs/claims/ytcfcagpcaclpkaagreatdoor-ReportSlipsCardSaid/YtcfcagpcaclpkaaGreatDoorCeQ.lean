/-
  A CLOSED EVALUATOR FOR THE MODEL: a quiet operation looks at its own operands alone; the frame while operations are pending. Conditions: none.
-/
import Derived.Test.YtcfcagpcaclpkaaGreatDoorCeP
namespace Go.Ce
open Go Go.RowKit

section
variable {P : Program} {fr fr' : T CV} {A : AW}
theorem opVal_same {x : Operand} (h : ∀ t, x = .tmp t → fr.get t = fr'.get t) : opVal fr x = opVal fr' x := by
  cases x with
  | tmp t => exact h t rfl
  | const v => rfl
  | global g => rfl
  | func f => rfl
theorem boundA_same {x : Option Operand} {d : Nat} (h : ∀ o, x = some o → opVal fr o = opVal fr' o) : boundA fr x d = boundA fr' x d := by
  cases x with
  | none => rfl
  | some o => simp only [boundA, h o rfl]
theorem fillA_same {place : Nat → Option (Nat × Nat)} : ∀ {parts : List (Nat × Operand)} {cs : List CV}, (∀ p ∈ parts, opVal fr p.2 = opVal fr' p.2) → fillA place fr cs parts = fillA place fr' cs parts
  | [], cs, _ => rfl
  | (i, x) :: rest, cs, h => by
    have hx := h (i, x) (by simp)
    simp only at hx
    simp only [fillA, hx]
    split
    · congr 1
      split
      · exact fillA_same fun p hp => h p (by simp [hp])
      · rfl
    · rfl
theorem foldA_same {f : CV → CV → Option CV} : ∀ {l : List Operand} {x : CV}, (∀ o ∈ l, opVal fr o = opVal fr' o) → foldA f fr x l = foldA f fr' x l
  | [], x, _ => rfl
  | o :: l, x, h => by
    simp only [foldA, h o (by simp)]
    split
    · split
      · exact foldA_same fun p hp => h p (by simp [hp])
      · rfl
    · rfl
theorem evQ_same {op : Op} (h : ∀ t, Operand.tmp t ∈ op.operands → fr.get t = fr'.get t) : evQ P op fr A = evQ P op fr' A := by
  have hop : ∀ x ∈ op.operands, opVal fr x = opVal fr' x := fun x hx => opVal_same fun t e => h t (e ▸ hx)
  cases op <;> simp only [evQ] <;> simp only [Op.operands] at hop
  case move x => exact hop x (by simp)
  case assign x => exact hop x (by simp)
  case pick c a b => rw [hop c (by simp), hop a (by simp), hop b (by simp)]
  case load t x => rw [hop x (by simp)]
  case nilCheck x => rw [hop x (by simp)]
  case binOp op t x y yt => rw [hop x (by simp), hop y (by simp)]
  case unOp op t x => rw [hop x (by simp)]
  case convert s d x => rw [hop x (by simp)]
  case fieldAddr s x f => rw [hop x (by simp)]
  case field s x f => rw [hop x (by simp)]
  case indexAddr s x f => rw [hop x (by simp), hop f (by simp)]
  case index s x f => rw [hop x (by simp), hop f (by simp)]
  case slice t x lo hi mx =>
    rw [hop x (by simp)]
    have h1 : ∀ d, boundA fr lo d = boundA fr' lo d := fun d => boundA_same fun o ho => hop o (by subst ho; simp)
    have h2 : ∀ d, boundA fr hi d = boundA fr' hi d := fun d => boundA_same fun o ho => hop o (by subst ho; simp)
    have h3 : ∀ o, mx = some o → ∀ d, boundA fr (some o) d = boundA fr' (some o) d := fun o ho d => boundA_same fun q hq => hop q (by injection hq with hq; subst hq; subst ho; simp)
    cases mx with
    | none =>
      unfold sliceA
      simp only [h1, h2]
      cases opVal fr' x with
      | none => rfl
      | some a =>
        cases P.underlying t with
        | none => rfl
        | some d => cases d <;> cases a <;> rfl
    | some m =>
      unfold sliceA
      simp only [h1, h2]
      cases opVal fr' x with
      | none => rfl
      | some a =>
        cases P.underlying t with
        | none => rfl
        | some d => cases d <;> cases a <;> first | rfl | simp only [h3 m rfl]
  case extract x i => rw [hop x (by simp)]
  case build t parts =>
    have hf : ∀ place cs, fillA place fr cs parts.toList = fillA place fr' cs parts.toList := fun place cs => fillA_same fun p hp => hop p.2 (by simp; exact ⟨p.1, by simpa using hp⟩)
    unfold buildA
    simp only [hf]
  case call c =>
    have hargs : ∀ x ∈ c.args.toList, opVal fr x = opVal fr' x := fun x hx => hop x (mem_operands hx)
    split
    · rename_i b hb
      unfold builtinQ
      split
      · rename_i x l _ he; rw [he] at hargs; rw [hargs x (by simp)]
      · rename_i x l he
        rw [he] at hargs
        rw [hargs x (by simp)]
        split
        · exact foldA_same fun o ho => hargs o (by simp [ho])
        · rfl
      · rename_i x l he
        rw [he] at hargs
        rw [hargs x (by simp)]
        split
        · exact foldA_same fun o ho => hargs o (by simp [ho])
        · rfl
      · rename_i x he; rw [he] at hargs; rw [hargs x (by simp)]
      · rfl
    · rfl
theorem wantedA_same {ol : List Oper} {o : Oper} (h : ∀ j want g t, o.guard = some (j, want) → getN ol j = some g → g.dst = some t → fr.get t = fr'.get t) : wantedA ol fr o = wantedA ol fr' o := by
  unfold wantedA
  cases hg : o.guard with
  | none => rfl
  | some jw =>
    obtain ⟨j, want⟩ := jw
    simp only
    cases hj : getN ol j with
    | none => rfl
    | some g =>
      simp only
      cases ht : g.dst with
      | none => rfl
      | some t => simp only [h j want g t hg hj ht]
theorem looks_op {ol : List Oper} {o : Oper} {t : Nat} (h : Operand.tmp t ∈ o.op.operands) : t ∈ looks ol o := by
  unfold looks
  refine List.mem_append_left _ (List.mem_filterMap.2 ⟨.tmp t, by simpa using h, rfl⟩)
theorem looks_guard {ol : List Oper} {o : Oper} {j : Nat} {want : Bool} {g : Oper} {t : Nat} (h1 : o.guard = some (j, want)) (h2 : getN ol j = some g) (h3 : g.dst = some t) : t ∈ looks ol o := by
  unfold looks
  refine List.mem_append_right _ ?_
  simp [h1, h2, h3]
mutual
theorem ceq_eq : ∀ {v v' : CV}, ceq v v' = true → v = v'
  | .b x, .b y, h => by cases x <;> cases y <;> simp [ceq] at h <;> rfl
  | .i k m, .i k' n, h => by
    simp only [ceq, Bool.and_eq_true, keq_iff, ieq_iff] at h
    rw [h.1, h.2]
  | .s l, .s m, h => by simp only [ceq, leq_iff] at h; rw [h]
  | .np, .np, _ => rfl
  | .p b o, .p b' o', h => by simp only [ceq, Bool.and_eq_true, beqN_iff] at h; rw [h.1, h.2]
  | .ns, .ns, _ => rfl
  | .sl b n k, .sl b' n' k', h => by simp only [ceq, Bool.and_eq_true, beqN_iff] at h; obtain ⟨⟨rfl, rfl⟩, rfl⟩ := h; rfl
  | .se b n k c, .se b' n' k' c', h => by simp only [ceq, Bool.and_eq_true, beqN_iff] at h; obtain ⟨⟨⟨rfl, rfl⟩, rfl⟩, rfl⟩ := h; rfl
  | .so b n k, .so b' n' k', h => by simp only [ceq, Bool.and_eq_true, beqN_iff] at h; obtain ⟨⟨rfl, rfl⟩, rfl⟩ := h; rfl
  | .nf, .nf, _ => rfl
  | .ni, .ni, _ => rfl
  | .fn f, .fn g, h => by simp only [ceq, beqN_iff] at h; rw [h]
  | .a l, .a m, h => by simp only [ceq] at h; rw [ceqL_eq h]
  | .t l, .t m, h => by simp only [ceq] at h; rw [ceqL_eq h]
theorem ceqL_eq : ∀ {l m : List CV}, ceqL l m = true → l = m
  | [], [], _ => rfl
  | a :: l, b :: m, h => by
    simp only [ceqL, Bool.and_eq_true] at h
    rw [ceq_eq h.1, ceqL_eq h.2]
  | [], _ :: _, h => by simp [ceqL] at h
  | _ :: _, [], h => by simp [ceqL] at h
end
theorem ceq'_eq {v v' : CV} (h : ceq' v v' = true) : v = v' := ceq_eq h
theorem leq_refl : ∀ l : List Nat, leq l l = true := fun l => (leq_iff l l).2 rfl
mutual
theorem ceq_refl : ∀ v : CV, ceq v v = true
  | .b x => by cases x <;> rfl
  | .i k m => by simp only [ceq, Bool.and_eq_true, keq_iff, ieq_iff]; exact ⟨trivial, trivial⟩
  | .s l => by simp only [ceq]; exact leq_refl l
  | .np => rfl
  | .p b o => by simp only [ceq, Bool.and_eq_true, beqN_iff]; exact ⟨trivial, trivial⟩
  | .ns => rfl
  | .sl b n k => by simp only [ceq, Bool.and_eq_true, beqN_iff]; exact ⟨⟨trivial, trivial⟩, trivial⟩
  | .se b n k c => by simp only [ceq, Bool.and_eq_true, beqN_iff]; exact ⟨⟨⟨trivial, trivial⟩, trivial⟩, trivial⟩
  | .so b n k => by simp only [ceq, Bool.and_eq_true, beqN_iff]; exact ⟨⟨trivial, trivial⟩, trivial⟩
  | .nf => rfl
  | .ni => rfl
  | .fn f => by simp only [ceq, beqN_iff]
  | .a l => by simp only [ceq]; exact ceqL_refl l
  | .t l => by simp only [ceq]; exact ceqL_refl l
theorem ceqL_refl : ∀ l : List CV, ceqL l l = true
  | [] => rfl
  | a :: l => by simp only [ceqL, Bool.and_eq_true]; exact ⟨ceq_refl a, ceqL_refl l⟩
end
end
end Go.Ce
