/-
  A CLOSED EVALUATOR FOR THE MODEL: what a plan's static looks say; the frame while operations are pending. Conditions: none.
-/
import Derived.Test.YtcfcagpcaclpkaaGreatDoorCeO
namespace Go.Ce
open Go Go.RowKit

theorem mem_iff {x : Nat} : ∀ {l : List Nat}, mem x l = true ↔ x ∈ l
  | [] => by simp [mem]
  | y :: l => by simp [mem, mem_iff (l := l)]
theorem sub_iff : ∀ {l m : List Nat}, sub l m = true ↔ ∀ x ∈ l, x ∈ m
  | [], m => by simp [sub]
  | x :: l, m => by simp [sub, mem_iff, sub_iff (l := l)]
theorem memO_some {d : Nat} {l : List Nat} : memO (some d) l = true ↔ d ∈ l := mem_iff
theorem waits_mem {o : Oper} {d : Nat} : d ∈ waits o ↔ ∃ e ∈ o.after, Region.binds .any e = true ∧ e.on = d := by
  unfold waits
  rw [List.mem_filterMap]
  constructor
  · rintro ⟨e, he, h⟩
    cases hb : Region.binds .any e <;> rw [hb] at h <;> simp at h
    exact ⟨e, by simpa using he, hb, h⟩
  · rintro ⟨e, he, hb, rfl⟩
    exact ⟨e, by simpa using he, by rw [hb]; rfl⟩
/-- Ready: all that it waits for has come. -/
theorem ready_iff {ops : Array Oper} {j : Nat} {listed : Array Bool} : j ∈ Region.ready .any ops listed ↔ listed.getD j true = false ∧ ∃ o, ops[j]? = some o ∧ ∀ d ∈ waits o, listed.getD d false = true := by
  rw [mem_ready]
  constructor
  · rintro ⟨h, o, ho, hh⟩
    refine ⟨h, o, ho, fun d hd => ?_⟩
    obtain ⟨e, he, hb, rfl⟩ := waits_mem.1 hd
    exact hh e he hb
  · rintro ⟨h, o, ho, hh⟩
    exact ⟨h, o, ho, fun e he hb => hh e.on (waits_mem.2 ⟨e, he, hb, rfl⟩)⟩
/-- What has come is closed under what is waited for. -/
def Closed (ops : Array Oper) (listed : Array Bool) : Prop := ∀ (j : Nat) o, ops[j]? = some o → listed.getD j false = true → ∀ d ∈ waits o, listed.getD d false = true
theorem mem_ins {x y : Nat} {l : List Nat} : x ∈ ins y l ↔ x = y ∨ x ∈ l := by
  unfold ins
  cases h : mem y l with
  | true => have := mem_iff.1 h; simp only [cond_true]; constructor
            · exact .inr
            · rintro (rfl | h)
              · exact this
              · exact h
  | false => simp
theorem mem_uni {x : Nat} : ∀ {l m : List Nat}, x ∈ uni l m ↔ x ∈ l ∨ x ∈ m
  | [], m => by simp [uni]
  | y :: l, m => by simp [uni, mem_ins, mem_uni (l := l), or_assoc]
theorem anc_fold {acc : List (List Nat)} {ws : List Nat} {x : Nat} (h : x ∈ ws.foldr (fun d r => ins d (uni ((getN acc d).getD []) r)) []) : ∃ d ∈ ws, x = d ∨ x ∈ (getN acc d).getD [] := by
  induction ws with
  | nil => simp at h
  | cons d ws ih =>
    simp only [List.foldr_cons, mem_ins, mem_uni] at h
    rcases h with h | h | h
    · exact ⟨d, by simp, .inl h⟩
    · exact ⟨d, by simp, .inr h⟩
    · obtain ⟨e, he, hh⟩ := ih h
      exact ⟨e, by simp [he], hh⟩
/-- Whatever stands among an operation's forerunners has come before it is ready. -/
theorem anc_listed {ops : Array Oper} {listed : Array Bool} (hc : Closed ops listed) : ∀ (l : List Oper) (k : Nat) (acc : List (List Nat)), acc.length = k → (∀ j, l[j]? = ops[k + j]?) →
    (∀ (j : Nat) o, j < k → ops[j]? = some o → (∀ d ∈ waits o, listed.getD d false = true) → ∀ x ∈ (getN acc j).getD [], listed.getD x false = true) →
    ∀ (j : Nat) o, ops[j]? = some o → (∀ d ∈ waits o, listed.getD d false = true) → ∀ x ∈ (getN (l.foldl (fun acc o => acc ++ [(waits o).foldr (fun d r => ins d (uni ((getN acc d).getD []) r)) []]) acc) j).getD [], listed.getD x false = true
  | [], k, acc, hk, hl, h, j, o, hj, hw, x, hx => by
    by_cases hjk : j < k
    · exact h j o hjk hj hw x hx
    · simp only [List.foldl_nil, getN_eq] at hx
      rw [List.getElem?_eq_none (by omega)] at hx
      simp at hx
  | o :: l, k, acc, hk, hl, h, j, o', hj, hw, x, hx => by
    have h0 : ops[k]? = some o := by simpa using (hl 0).symm
    refine anc_listed hc l (k + 1) (acc ++ [(waits o).foldr (fun d r => ins d (uni ((getN acc d).getD []) r)) []]) (by simp [hk]) (fun j => by have := hl (j + 1); simpa [Nat.add_assoc, Nat.add_comm 1 j] using this) ?_ j o' hj hw x hx
    intro i oi hik hoi hwi y hy
    by_cases hi : i < k
    · rw [getN_eq, List.getElem?_append_left (by omega), ← getN_eq] at hy
      exact h i oi hi hoi hwi y hy
    · obtain rfl : i = k := by omega
      rw [getN_eq, List.getElem?_append_right (by omega)] at hy
      simp [hk] at hy
      rw [h0] at hoi
      simp only [Option.some.injEq] at hoi
      subst hoi
      obtain ⟨d, hd, hh⟩ := anc_fold hy
      have hld := hwi d hd
      rcases hh with rfl | hh
      · exact hld
      · by_cases hdk : d < i
        · cases hod : ops[d]? with
          | none =>
            have : (getN acc d).getD [] = [] ∨ ∃ q, ops[d]? = some q := by
              left
              have hlt : ¬ d < ops.size := fun hlt => by rw [Array.getElem?_eq_getElem hlt] at hod; cases hod
              have : i < ops.size := (Array.getElem?_eq_some_iff.1 h0).1
              omega
            rcases this with e | ⟨q, e⟩
            · rw [e] at hh; cases hh
            · rw [hod] at e; cases e
          | some od => exact h d od hdk hod (hc d od hod hld) y hh
        · rw [getN_eq, List.getElem?_eq_none (by omega)] at hh
          cases hh
theorem ancs_listed {ops : Array Oper} {listed : Array Bool} (hc : Closed ops listed) {j : Nat} {o : Oper} (hj : ops[j]? = some o) (hw : ∀ d ∈ waits o, listed.getD d false = true) {x : Nat} (hx : mem x ((getN (ancs ops.toList) j).getD []) = true) : listed.getD x false = true :=
  anc_listed hc ops.toList 0 [] rfl (fun j => by simp) (fun j o h => by omega) j o hj hw x (mem_iff.1 hx)

/-! ### Plans -/
section
variable (P : Program)
/-- How a plan's past was made. -/
inductive Built (ops : Array Oper) : List Nat → Prop
  | nil : Built ops []
  | cons {pre : List Nat} {i : Nat} {o : Oper} (h : Built ops pre) (ho : ops[i]? = some o) (hm : mayNext P ops.toList (ancs ops.toList) pre i o = true) : Built ops (i :: pre)
def Valid (ops : Array Oper) : List Nat → List (Nat × List Nat) → Prop
  | pre, [] => ∀ j, j < ops.size → j ∈ pre
  | pre, (i, re) :: rest => ∃ o, ops[i]? = some o ∧ mayNext P ops.toList (ancs ops.toList) pre i o = true ∧ re = again P ops.toList (ancs ops.toList) pre i o ∧ Valid ops (i :: pre) rest
end
theorem all_mem {n : Nat} {pre : List Nat} (h : ((List.range n).all fun j => mem j pre) = true) : ∀ j, j < n → j ∈ pre := fun j hj =>
  mem_iff.1 (List.all_eq_true.1 h j (List.mem_range.2 hj))
theorem planFrom_valid {P : Program} {ops : Array Oper} : ∀ (f : Nat) (pre : List Nat) (r : List (Nat × List Nat)), planFrom P ops.toList (ancs ops.toList) f pre = some r → Valid P ops pre r
  | 0, pre, r, h => by
    simp only [planFrom] at h
    obtain ⟨h1, h2⟩ := cond_some h
    simp only [Option.some.injEq] at h2
    subst h2
    exact fun j hj => all_mem h1 j (by simpa using hj)
  | f + 1, pre, r, h => by
    simp only [planFrom] at h
    cases hd : ((List.range ops.toList.length).all fun j => mem j pre) with
    | true =>
      rw [hd] at h
      simp only [cond_true, Option.some.injEq] at h
      subst h
      exact fun j hj => all_mem hd j (by simpa using hj)
    | false =>
      rw [hd] at h
      simp only [cond_false] at h
      split at h
      · rename_i i hi
        split at h
        · rename_i o ho
          obtain ⟨h1, h2⟩ := cond_some h
          split at h2
          · rename_i q hq
            simp only [Option.some.injEq] at h2
            subst h2
            rw [getN_eq, Array.getElem?_toList] at ho
            exact ⟨o, ho, h1, rfl, planFrom_valid f (i :: pre) q hq⟩
          · cases h2
        · cases h
      · cases h
theorem planOf_valid {P : Program} {ops : Array Oper} {r : List (Nat × List Nat)} (h : planOf P ops.toList = some r) : Valid P ops [] r := planFrom_valid _ _ _ h

/-- What 'mayNext' says. -/
structure May (P : Program) (ops : Array Oper) (pre : List Nat) (i : Nat) (o : Oper) : Prop where
  new : i ∉ pre
  wait : ∀ d ∈ waits o, d ∈ pre
  own : isW P o = true ∨ memO o.dst (looks ops.toList o) = false
  alD : isAl o.op = true → ∃ t, o.dst = some t
  fit : ∀ d ∈ pre, ∀ x, ops[d]? = some x → isW P x = true ∨ fits P ops.toList x o (mem d ((getN (ancs ops.toList) i).getD [])) = true
  sole : isW P o = true → ∀ j y, ops[j]? = some y → j ∉ pre → j ≠ i → ∃ d ∈ waits y, d ∉ pre
theorem may_of {P : Program} {ops : Array Oper} {pre : List Nat} {i : Nat} {o : Oper} (h : mayNext P ops.toList (ancs ops.toList) pre i o = true) : May P ops pre i o := by
  unfold mayNext at h
  simp only [Bool.and_eq_true] at h
  obtain ⟨⟨⟨⟨⟨h1, h2⟩, h3⟩, h6⟩, h4⟩, h5⟩ := h
  refine ⟨fun hm => ?_, sub_iff.1 h2, ?_, fun ha => ?_, fun d hd x hx => ?_, fun hw j y hj hjp hji => ?_⟩
  · rw [mem_iff.2 hm] at h1; cases h1
  · rw [Bool.or_eq_true] at h3
    rcases h3 with h | h
    · exact .inl h
    · exact .inr (by simpa using h)
  · rw [ha] at h6
    exact Option.isSome_iff_exists.1 (by simpa using h6)
  · unfold allD at h4
    have := List.all_eq_true.1 h4 d hd
    rw [getN_eq, Array.getElem?_toList, hx] at this
    simpa using this
  · rw [hw] at h5
    simp only [Bool.not_true, Bool.false_or] at h5
    have hlt : j < ops.size := (Array.getElem?_eq_some_iff.1 hj).1
    have := List.all_eq_true.1 h5 j (List.mem_range.2 (by simpa using hlt))
    rw [getN_eq, Array.getElem?_toList, hj] at this
    have hm : mem j pre = false := by
      cases hb : mem j pre with
      | true => exact absurd (mem_iff.1 hb) hjp
      | false => rfl
    have hn : Nat.beq j i = false := by
      cases hb : Nat.beq j i with
      | true => exact absurd ((beqN_iff _ _).1 hb) hji
      | false => rfl
    rw [hm, hn] at this
    simp only [Bool.false_or, Bool.not_eq_true'] at this
    apply Classical.byContradiction
    intro hne
    have : sub (waits y) pre = true := sub_iff.2 fun d hd => Classical.byContradiction fun hdp => hne ⟨d, hd, hdp⟩
    simp_all
end Go.Ce
