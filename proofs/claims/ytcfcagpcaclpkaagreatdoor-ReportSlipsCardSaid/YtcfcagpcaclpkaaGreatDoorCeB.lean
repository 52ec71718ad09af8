/-
  A CLOSED EVALUATOR FOR THE MODEL: what its small words say, and what a symbolic memory says of a world. Conditions: none.
-/
import Derived.Test.YtcfcagpcaclpkaaGreatDoorCeA
namespace Go.Ce
open Go Go.RowKit

/-! ### The small words -/
theorem forceNat_eq {β : Type} (n : Nat) (f : Nat → β) : forceNat n f = f n := by cases n <;> rfl
theorem mkI_eq (k : IntKind) (n : Int) : mkI k n = .i k n := by cases n <;> simp [mkI, forceNat_eq]
theorem blt_iff (a b : Nat) : Nat.blt a b = true ↔ a < b := by simp [Nat.blt, Nat.ble_eq]; omega
theorem beqN_iff (a b : Nat) : Nat.beq a b = true ↔ a = b := by simp
theorem ieq_iff (a b : Int) : ieq a b = true ↔ a = b := by
  cases a <;> cases b <;> simp [ieq] <;> omega
theorem ieq_eq (a b : Int) : ieq a b = (a == b) := by
  rw [Bool.eq_iff_iff, ieq_iff]; simp
theorem ilt_eq (a b : Int) : ilt a b = decide (a < b) := by
  rw [Bool.eq_iff_iff]
  cases a <;> cases b <;> simp [ilt, Nat.blt, Nat.ble_eq] <;> omega
theorem keq_iff (a b : IntKind) : keq a b = true ↔ a = b := by cases a <;> cases b <;> simp [keq]
theorem wrap_nat (k : IntKind) (m : Nat) (h : m < lim k) : k.wrap (Int.ofNat m) = Int.ofNat m := by
  unfold IntKind.wrap
  cases k <;> simp only [lim] at h <;> simp only [IntKind.bits, IntKind.signed] <;> simp <;> omega
theorem wrap_neg (k : IntKind) (m : Nat) (hs : k.signed = true) (h : m < lim k) : k.wrap (Int.negSucc m) = Int.negSucc m := by
  unfold IntKind.wrap
  cases k <;> simp only [IntKind.signed] at hs <;> simp only [lim] at h <;> simp only [IntKind.bits, IntKind.signed] <;> simp at hs ⊢ <;> omega
theorem wrapF_eq (k : IntKind) (n : Int) : wrapF k n = k.wrap n := by
  cases n with
  | ofNat m =>
    show cond (Nat.blt m (lim k)) (Int.ofNat m) (k.wrap (Int.ofNat m)) = _
    cases h : Nat.blt m (lim k) with
    | false => rfl
    | true => exact (wrap_nat k m ((blt_iff _ _).1 h)).symm
  | negSucc m =>
    show cond (k.signed && Nat.blt m (lim k)) (Int.negSucc m) (k.wrap (Int.negSucc m)) = _
    cases h : (k.signed && Nat.blt m (lim k)) with
    | false => rfl
    | true =>
      rw [Bool.and_eq_true, blt_iff] at h
      exact (wrap_neg k m h.1 h.2).symm
theorem leq_iff (l m : List Nat) : leq l m = true ↔ l = m := by
  induction l generalizing m with
  | nil => cases m <;> simp [leq]
  | cons a l ih => cases m <;> simp [leq, ih]
theorem getN_eq {α : Type} (l : List α) (n : Nat) : getN l n = l[n]? := by
  induction l generalizing n with
  | nil => simp [getN]
  | cons a l ih => cases n with
    | zero => rfl
    | succ n => exact (ih n).trans (by simp)
theorem setN_some {α : Type} {l l' : List α} {n : Nat} {x : α} (h : setN l n x = some l') : n < l.length ∧ l' = l.set n x := by
  induction l generalizing n l' with
  | nil => simp [setN] at h
  | cons a l ih =>
    cases n with
    | zero =>
      have h' : some (x :: l) = some l' := h
      injection h' with h'; subst h'; simp
    | succ m =>
      replace h : (match setN l m x with | some l' => some (a :: l') | none => none) = some l' := h
      cases h2 : setN l m x with
      | none => simp [h2] at h
      | some r =>
        simp [h2] at h
        obtain ⟨h3, h4⟩ := ih h2
        subst h4
        simp [← h]; omega
theorem cutN_some {α : Type} {l r : List α} {n : Nat} (h : cutN l n = some r) : r = l.take n ∧ n ≤ l.length := by
  induction n generalizing l r with
  | zero =>
    have h' : some [] = some r := h
    injection h' with h'; subst h'; simp
  | succ n ih =>
    cases l with
    | nil => simp [cutN] at h
    | cons a l =>
      have h' : (match cutN l n with | some r => some (a :: r) | none => none) = some r := h
      cases h2 : cutN l n with
      | none => simp [h2] at h'
      | some q =>
        simp [h2] at h'
        obtain ⟨h3, h4⟩ := ih h2
        subst h3
        simp [← h']; omega
theorem dropN_eq {α : Type} (l : List α) (n : Nat) : dropN l n = l.drop n := by
  induction n generalizing l with
  | zero => rfl
  | succ n ih =>
    cases l with
    | nil => simp [dropN]
    | cons a l => simpa [dropN] using ih l
theorem subN_some {α : Type} {l r : List α} {o n : Nat} (h : subN l o n = some r) : r = (l.drop o).take n ∧ r.length = n ∧ o + n ≤ l.length ∨ n = 0 ∧ r = [] := by
  obtain ⟨h1, h2⟩ := cutN_some h
  rw [dropN_eq] at h1 h2
  by_cases hn : n = 0
  · subst hn; exact .inr ⟨rfl, by simpa using h1⟩
  · left; simp at h2; refine ⟨h1, ?_, by omega⟩
    subst h1; simp; omega
theorem subN_get {α : Type} {l r : List α} {o n : Nat} (h : subN l o n = some r) : r.length = n ∧ ∀ j, j < n → r[j]? = l[o + j]? := by
  obtain ⟨h1, h2⟩ := cutN_some h
  rw [dropN_eq] at h1 h2
  simp at h2
  subst h1
  refine ⟨by simp; omega, fun j hj => ?_⟩
  rw [List.getElem?_take_of_lt hj, List.getElem?_drop]
theorem lenN_eq {α : Type} (l : List α) : lenN l = l.length := by
  induction l with
  | nil => rfl
  | cons a l ih => simp [lenN, forceNat_eq, ih]
theorem setL_some {α : Type} {l l' xs : List α} {o : Nat} (h : setL l o xs = some l') :
    l'.length = l.length ∧ (xs ≠ [] → o + xs.length ≤ l.length) ∧ ∀ j, l'[j]? = if o ≤ j ∧ j < o + xs.length then xs[j - o]? else l[j]? := by
  induction xs generalizing l l' o with
  | nil => simp [setL] at h; subst h; refine ⟨rfl, by simp, fun j => ?_⟩; rw [if_neg]; simp
  | cons x xs ih =>
    simp only [setL] at h
    cases h2 : setN l o x with
    | none => simp [h2] at h
    | some q =>
      simp only [h2] at h
      obtain ⟨h3, rfl⟩ := setN_some h2
      obtain ⟨e1, e2, e3⟩ := ih h
      refine ⟨by simpa using e1, fun _ => ?_, fun j => ?_⟩
      · by_cases hx : xs = []
        · subst hx; simp; omega
        · have := e2 hx; simp at this ⊢; omega
      · rw [e3 j]
        simp only [List.length_cons]
        by_cases hj : j = o
        · subst hj
          rw [if_neg (by omega), if_pos (by omega)]
          simp [h3]
        · by_cases hin : o + 1 ≤ j ∧ j < o + 1 + xs.length
          · rw [if_pos (by omega), if_pos (by omega)]
            obtain ⟨i, rfl⟩ : ∃ i, j = o + (i + 1) := ⟨j - o - 1, by omega⟩
            rw [show o + (i + 1) - (o + 1) = i by omega, show o + (i + 1) - o = i + 1 by omega]
            simp
          · rw [if_neg (by omega), if_neg (by omega)]
            rw [List.getElem?_set_ne (by omega)]

/-! ### The map from numbers -/
theorem T.get_e {α : Type} (k : Nat) : (T.e : T α).get k = none := by cases k <;> rfl
theorem T.get_set_same {α : Type} (x : Option α) : ∀ (f : Nat) (t : T α) (k : Nat), k + 1 < 2 ^ f → (T.set f t k x).get k = x := by
  intro f
  induction f with
  | zero => intro t k h; simp at h
  | succ f ih =>
    intro t k h
    cases k with
    | zero => cases t <;> rfl
    | succ k =>
      have hk : k / 2 + 1 < 2 ^ f := by rw [Nat.pow_succ] at h; omega
      cases t with
      | e =>
        simp only [T.set]
        cases hb : Nat.beq (k % 2) 0 <;> simp only [cond_true, cond_false, T.get, hb] <;> exact ih _ _ hk
      | n v l r =>
        simp only [T.set]
        cases hb : Nat.beq (k % 2) 0 <;> simp only [cond_true, cond_false, T.get, hb] <;> exact ih _ _ hk
theorem half_ne {k j : Nat} (h : j + 1 ≠ k + 1) (e : Nat.beq (k % 2) 0 = Nat.beq (j % 2) 0) : j / 2 ≠ k / 2 := by
  intro hh
  have : k % 2 = j % 2 := by
    cases h1 : Nat.beq (k % 2) 0 <;> rw [h1] at e
    · have a : ¬ (k % 2 = 0) := fun z => by rw [← beqN_iff, h1] at z; simp at z
      have b : ¬ (j % 2 = 0) := fun z => by rw [← beqN_iff, ← e] at z; simp at z
      omega
    · have a := (beqN_iff _ _).1 h1
      have b := (beqN_iff _ _).1 e.symm
      omega
  omega
theorem T.get_set_other {α : Type} (x : Option α) : ∀ (f : Nat) (t : T α) (k j : Nat), j ≠ k → (T.set f t k x).get j = t.get j := by
  intro f
  induction f with
  | zero => intro t k j _; rfl
  | succ f ih =>
    intro t k j h
    cases k with
    | zero =>
      cases j with
      | zero => exact absurd rfl h
      | succ j => cases t <;> simp [T.set, T.get]
    | succ k =>
      cases j with
      | zero =>
        cases t with
        | e => simp only [T.set]; cases hb : Nat.beq (k % 2) 0 <;> rfl
        | n v l r => simp only [T.set]; cases hb : Nat.beq (k % 2) 0 <;> rfl
      | succ j =>
        have hne := half_ne h
        cases t with
        | e =>
          simp only [T.set]
          cases hb : Nat.beq (k % 2) 0 <;> cases hc : Nat.beq (j % 2) 0 <;> simp only [cond_true, cond_false, T.get, hc]
          · rw [ih _ _ _ (hne (by rw [hb, hc])), T.get_e]
          · rw [ih _ _ _ (hne (by rw [hb, hc])), T.get_e]
        | n v l r =>
          simp only [T.set]
          cases hb : Nat.beq (k % 2) 0 <;> cases hc : Nat.beq (j % 2) 0 <;> simp only [cond_true, cond_false, T.get, hc]
          · exact ih _ _ _ (hne (by rw [hb, hc]))
          · exact ih _ _ _ (hne (by rw [hb, hc]))

theorem up_fuel (k : Nat) : k + 1 < 2 ^ (k + 1) ∨ k = 0 := by
  induction k with
  | zero => exact .inr rfl
  | succ k ih => left; rcases ih with h | rfl <;> simp only [Nat.pow_succ] at * <;> omega
theorem T.get_up_same {α : Type} (t : T α) (k : Nat) (x : Option α) : (t.up k x).get k = x := by
  unfold T.up
  rcases up_fuel k with h | rfl
  · exact T.get_set_same _ _ _ _ h
  · cases t <;> rfl
theorem T.get_up_other {α : Type} (t : T α) {k j : Nat} (x : Option α) (h : j ≠ k) : (t.up k x).get j = t.get j := T.get_set_other _ _ _ _ _ h
/-! ### What a value stands for -/
structure Loc where
  blk : Nat
  sh : Nat
  cap : Nat
  esz : Nat
abbrev Env := Nat → Option Loc
def bs (l : List Nat) : ByteArray := ⟨(l.map UInt8.ofNat).toArray⟩
mutual
def conc (ρ : Env) : CV → Option Value
  | .b x => some (.bool x)
  | .i k n => some (.int k n)
  | .s l => if l.all (fun m => decide (m < 256)) then some (.string (bs l)) else none
  | .np => some (.pointer none)
  | .p b o => match ρ b with
    | some L => some (.pointer (some ⟨L.blk, L.sh + o, none⟩))
    | none => none
  | .ns => some (.slice none 0 0)
  | .sl b n k => match ρ b with
    | some L => if n + k ≤ L.cap then some (.slice (some ⟨L.blk, L.sh + k * L.esz, none⟩) n (L.cap - k)) else none
    | none => none
  | .se b o n c => match ρ b with
    | some L => if n ≤ c then some (.slice (some ⟨L.blk, L.sh + o, none⟩) n c) else none
    | none => none
  | .so b k0 k => match ρ b with
    | some L => if k ≤ L.cap then some (.slice (some ⟨L.blk, L.sh + (if k = L.cap then k0 else k) * L.esz, none⟩) 0 (L.cap - k)) else none
    | none => none
  | .nf => some .nilFunc
  | .ni => some .nilIface
  | .fn f => some (.func (.func f) #[] #[])
  | .a cs => match concL ρ cs with
    | some l => some (.agg l.toArray)
    | none => none
  | .t cs => match concL ρ cs with
    | some l => some (.tuple l.toArray)
    | none => none
def concL (ρ : Env) : List CV → Option (List Value)
  | [] => some []
  | c :: cs => match conc ρ c, concL ρ cs with
    | some x, some xs => some (x :: xs)
    | _, _ => none
end
def Env.le (ρ ρ' : Env) : Prop := ∀ b L, ρ b = some L → ρ' b = some L
mutual
theorem conc_mono {ρ ρ' : Env} (h : ρ.le ρ') : ∀ (v : CV) (x : Value), conc ρ v = some x → conc ρ' v = some x
  | .b _, _, e => e
  | .i _ _, _, e => e
  | .s _, _, e => by simpa [conc] using e
  | .np, _, e => e
  | .p b o, x, e => by
    simp only [conc] at e ⊢
    cases hb : ρ b with
    | none => simp [hb] at e
    | some L => rw [hb] at e; rw [h b L hb]; exact e
  | .ns, _, e => e
  | .sl b n k, x, e => by
    simp only [conc] at e ⊢
    cases hb : ρ b with
    | none => simp [hb] at e
    | some L => rw [hb] at e; rw [h b L hb]; exact e
  | .se b o n c, x, e => by
    simp only [conc] at e ⊢
    cases hb : ρ b with
    | none => simp [hb] at e
    | some L => rw [hb] at e; rw [h b L hb]; exact e
  | .so b n k, x, e => by
    simp only [conc] at e ⊢
    cases hb : ρ b with
    | none => simp [hb] at e
    | some L => rw [hb] at e; rw [h b L hb]; exact e
  | .nf, _, e => e
  | .ni, _, e => e
  | .fn _, _, e => e
  | .a cs, x, e => by
    simp only [conc] at e ⊢
    cases hl : concL ρ cs with
    | none => simp [hl] at e
    | some l => rw [hl] at e; rw [concL_mono h cs l hl]; exact e
  | .t cs, x, e => by
    simp only [conc] at e ⊢
    cases hl : concL ρ cs with
    | none => simp [hl] at e
    | some l => rw [hl] at e; rw [concL_mono h cs l hl]; exact e
theorem concL_mono {ρ ρ' : Env} (h : ρ.le ρ') : ∀ (l : List CV) (xs : List Value), concL ρ l = some xs → concL ρ' l = some xs
  | [], _, e => e
  | c :: cs, xs, e => by
    simp only [concL] at e ⊢
    cases hc : conc ρ c with
    | none => simp [hc] at e
    | some x =>
      cases hl : concL ρ cs with
      | none => simp [hc, hl] at e
      | some l =>
        rw [hc, hl] at e
        rw [conc_mono h c x hc, concL_mono h cs l hl]
        exact e
end
theorem concL_len {ρ : Env} : ∀ {l : List CV} {xs : List Value}, concL ρ l = some xs → xs.length = l.length
  | [], xs, e => by simp [concL] at e; simp [← e]
  | c :: cs, xs, e => by
    simp only [concL] at e
    cases hc : conc ρ c <;> cases hl : concL ρ cs <;> simp [hc, hl] at e
    simp [← e, concL_len hl]
theorem concL_get {ρ : Env} : ∀ {l : List CV} {xs : List Value}, concL ρ l = some xs → ∀ (j : Nat) (c : CV), l[j]? = some c → ∃ x, conc ρ c = some x ∧ xs[j]? = some x
  | [], _, _, j, c, h => by simp at h
  | c :: cs, xs, e, j, d, h => by
    simp only [concL] at e
    cases hc : conc ρ c <;> cases hl : concL ρ cs <;> simp [hc, hl] at e
    rename_i x l
    subst e
    cases j with
    | zero => simp at h; subst h; exact ⟨x, hc, by simp⟩
    | succ j => simp at h; obtain ⟨y, h1, h2⟩ := concL_get hl j d h; exact ⟨y, h1, by simpa using h2⟩
theorem concL_of {ρ : Env} : ∀ {l : List CV} {xs : List Value}, xs.length = l.length → (∀ (j : Nat) (c : CV), l[j]? = some c → ∃ x, conc ρ c = some x ∧ xs[j]? = some x) → concL ρ l = some xs
  | [], xs, e, _ => by simp at e; simp [concL, e]
  | c :: cs, [], e, _ => by simp at e
  | c :: cs, x :: xs, e, h => by
    obtain ⟨y, h1, h2⟩ := h 0 c (by simp)
    simp at h2; subst h2
    have := concL_of (l := cs) (xs := xs) (by simpa using e) (fun j d hd => by simpa using h (j + 1) d (by simpa using hd))
    simp [concL, h1, this]
theorem concL_sub {ρ : Env} {l r : List CV} {xs : List Value} (h : concL ρ l = some xs) {o n : Nat} (hs : subN l o n = some r) : concL ρ r = some ((xs.drop o).take n) := by
  obtain ⟨h1, h2⟩ := subN_get hs
  obtain ⟨h3, h4⟩ := cutN_some hs
  rw [dropN_eq] at h4; simp at h4
  have hl := concL_len h
  refine concL_of (by simp; omega) fun j c hc => ?_
  have hj : j < n := by
    have := List.getElem?_eq_some_iff.1 hc
    obtain ⟨q, _⟩ := this; omega
  rw [h2 j hj] at hc
  obtain ⟨x, e1, e2⟩ := concL_get h _ _ hc
  exact ⟨x, e1, by rw [List.getElem?_take_of_lt hj, List.getElem?_drop]; exact e2⟩
theorem concL_append {ρ : Env} {l m : List CV} {xs ys : List Value} (h : concL ρ l = some xs) (h' : concL ρ m = some ys) : concL ρ (l ++ m) = some (xs ++ ys) := by
  induction l generalizing xs with
  | nil => simp [concL] at h; subst h; simpa using h'
  | cons c cs ih =>
    simp only [concL] at h
    cases hc : conc ρ c <;> cases hl : concL ρ cs <;> simp [hc, hl] at h
    subst h
    simp [concL, hc, ih hl]
theorem conc_one {ρ : Env} {v : CV} {x : Value} (h : conc ρ v = some x) (h1 : v.one = true) : x.oneCell' = true := by
  cases v <;> simp [CV.one] at h1 <;> simp only [conc] at h
  case p b o => cases hb : ρ b <;> simp [hb] at h; subst h; rfl
  case sl b o n => cases hb : ρ b <;> simp [hb] at h; obtain ⟨_, h⟩ := h; subst h; rfl
  case se b o n c => cases hb : ρ b <;> simp [hb] at h; obtain ⟨_, h⟩ := h; subst h; rfl
  case so b k0 k => cases hb : ρ b <;> simp [hb] at h; obtain ⟨_, h⟩ := h; subst h; rfl
  case s l => split at h <;> simp at h; subst h; rfl
  all_goals (simp at h; subst h; rfl)
theorem conc_cells {ρ : Env} {v : CV} {x : Value} (h : conc ρ v = some x) : concL ρ v.cells = some x.cells.toList := by
  cases v
  case a cs =>
    simp only [conc] at h
    cases hl : concL ρ cs <;> simp [hl] at h
    subst h; simpa [CV.cells, Value.cells] using hl
  case t cs =>
    have h' := h
    simp only [conc] at h
    cases hl : concL ρ cs <;> simp [hl] at h
    subst h
    simp [CV.cells, Value.cells, concL, h']
  all_goals
    have h1 := conc_one h rfl
    simp only [CV.cells, concL, h]
    cases x <;> simp [Value.oneCell'] at h1 <;> simp [Value.cells]
theorem allOne_get : ∀ {l : List CV}, allOne l = true → ∀ (j : Nat) c, l[j]? = some c → c.one = true
  | [], _, j, c, h => by simp at h
  | a :: l, hh, j, c, h => by
    simp only [allOne, Bool.and_eq_true] at hh
    cases j with
    | zero => simp at h; subst h; exact hh.1
    | succ j => simp at h; exact allOne_get hh.2 j c h
theorem allOne_conc {ρ : Env} {l : List CV} {xs : List Value} (h : allOne l = true) (hc : concL ρ l = some xs) : ∀ x ∈ xs, x.oneCell' = true := by
  intro x hx
  obtain ⟨j, hj⟩ := List.getElem?_of_mem hx
  have hlen := concL_len hc
  have hjl : j < l.length := by have := (List.getElem?_eq_some_iff.1 hj).1; omega
  obtain ⟨y, h1, h2⟩ := concL_get hc j l[j] (by simp [hjl])
  rw [hj] at h2; simp at h2; subst h2
  exact conc_one h1 (allOne_get h j _ (by simp [hjl]))
theorem bs_self (s : ByteArray) : bs (s.data.toList.map UInt8.toNat) = s := by
  unfold bs
  rw [List.map_map]
  have : (UInt8.ofNat ∘ UInt8.toNat) = id := by funext b; simp
  rw [this]; simp
theorem conc_ofV1 {ρ : Env} {v : Value} {c : CV} (h : ofV1 v = some c) : conc ρ c = some v := by
  cases v
  case bool b => simp [ofV1] at h; subst h; rfl
  case int k n => simp [ofV1] at h; subst h; rfl
  case string s =>
    simp [ofV1] at h; subst h
    simp only [conc]
    rw [if_pos, bs_self]
    simp only [List.all_map, List.all_eq_true]
    intro b _
    simpa using b.toNat_lt
  case pointer a => cases a <;> simp [ofV1] at h; subst h; rfl
  case slice a n c' =>
    cases a with
    | some a => simp [ofV1] at h
    | none =>
      simp only [ofV1] at h
      cases hb : (Nat.beq n 0 && Nat.beq c' 0) <;> simp [hb] at h
      subst h
      rw [Bool.and_eq_true, beqN_iff, beqN_iff] at hb
      obtain ⟨rfl, rfl⟩ := hb
      rfl
  case nilFunc => simp [ofV1] at h; subst h; rfl
  case nilIface => simp [ofV1] at h; subst h; rfl
  all_goals simp [ofV1] at h
theorem concL_ofVL {ρ : Env} : ∀ {l : List Value} {cs : List CV}, ofVL l = some cs → concL ρ cs = some l
  | [], cs, h => by simp [ofVL] at h; subst h; rfl
  | v :: vs, cs, h => by
    simp only [ofVL] at h
    cases h1 : ofV1 v <;> cases h2 : ofVL vs <;> simp [h1, h2] at h
    subst h
    simp [concL, conc_ofV1 h1, concL_ofVL h2]
theorem conc_ofV {ρ : Env} {v : Value} {c : CV} (h : ofV v = some c) : conc ρ c = some v := by
  cases v
  case agg cs =>
    simp only [ofV] at h
    cases hl : ofVL cs.toList <;> simp [hl] at h
    subst h
    simp [conc, concL_ofVL hl]
  case tuple vs =>
    simp only [ofV] at h
    cases hl : vs.toList with
    | nil =>
      simp [hl] at h; subst h
      have : vs = #[] := by cases vs; simp_all
      simp [conc, concL, this]
    | cons a l => simp [hl] at h
  all_goals exact conc_ofV1 h
theorem zero_one {ρ : Env} {v : Value} {c : CV} (h : ofV v = some c) : conc ρ c = some v := conc_ofV h

/-! ### What a symbolic memory says of a world -/
def Fz (size : Nat) (f : Nat × Nat) (sh fz : Nat) (fb : Bool) : Prop := f.1 = f.2 ∨ (fb = true ∧ fz = 0 ∧ size ≤ f.1) ∨ (fb = false ∧ f.1 ≤ f.2 ∧ f.2 ≤ sh + fz)
structure BR (B : Nat) (ρ : Env) (w : World) (ob : AObj) (L : Loc) (C : Array Value) (f : Nat × Nat) : Prop where
  base : ob.ro = false → B ≤ L.blk
  heap : w.heap[L.blk]? = some (.cells C ob.el f)
  cell : ∀ j v, ob.cells[j]? = some v → ∃ x, conc ρ v = some x ∧ C[L.sh + j]? = some x
  froz : ob.ro = false → Fz C.size f L.sh ob.fz ob.fb
  esz : L.esz = ob.esz
  room : L.sh + L.cap * L.esz ≤ C.size
  shz : ob.esz = 0 → L.sh = 0
structure WR (w0 : World) (ρ : Env) (A : AW) (w : World) : Prop where
  below : Below w0.heap.size w0 w
  dom : ∀ b L, ρ b = some L → b < A.next
  dead : ∀ b, A.next ≤ b → A.heap.get b = none
  blk : ∀ b ob L, A.heap.get b = some ob → ρ b = some L → ∃ C f, BR w0.heap.size ρ w ob L C f
  inj : ∀ b b' ob ob' L L', A.heap.get b = some ob → A.heap.get b' = some ob' → ρ b = some L → ρ b' = some L' → ob.ro = false → L.blk = L'.blk → b = b'
structure Good (ρ : Env) (A : AW) (ρ' : Env) (A' : AW) : Prop where
  old : ∀ b, b < A.next → ρ' b = ρ b
  next : A.next ≤ A'.next
  keep : ∀ b, b < A.next → ρ b = none → A'.heap.get b = A.heap.get b
theorem Good.refl (ρ : Env) (A : AW) : Good ρ A ρ A := ⟨fun _ _ => rfl, Nat.le_refl _, fun _ _ _ => rfl⟩
theorem Good.trans {ρ ρ' ρ'' : Env} {A A' A'' : AW} (h : Good ρ A ρ' A') (h' : Good ρ' A' ρ'' A'') : Good ρ A ρ'' A'' :=
  ⟨fun b hb => (h'.old b (Nat.lt_of_lt_of_le hb h.next)).trans (h.old b hb), Nat.le_trans h.next h'.next,
    fun b hb hn => (h'.keep b (Nat.lt_of_lt_of_le hb h.next) ((h.old b hb).trans hn)).trans (h.keep b hb hn)⟩
theorem Good.le {w0 : World} {ρ ρ' : Env} {A A' : AW} {w : World} (h : Good ρ A ρ' A') (hw : WR w0 ρ A w) : ρ.le ρ' :=
  fun b L hb => by rw [h.old b (hw.dom b L hb)]; exact hb
theorem WR.drew {w0 : World} {ρ : Env} {A : AW} {w : World} (h : WR w0 ρ A w) : WR w0 ρ A { w with drawn := w.drawn + 1 } :=
  ⟨Below.drew h.below, h.dom, h.dead, fun b ob L h1 h2 => let ⟨C, f, hb⟩ := h.blk b ob L h1 h2; ⟨C, f, ⟨hb.base, hb.heap, hb.cell, hb.froz, hb.esz, hb.room, hb.shz⟩⟩, h.inj⟩
theorem BR.cell? {B : Nat} {ρ : Env} {w : World} {ob : AObj} {L : Loc} {C : Array Value} {f : Nat × Nat} (h : BR B ρ w ob L C f) (i : Nat) : w.cell? ⟨L.blk, i, none⟩ = C[i]? := by
  simp [World.cell?, h.heap]
theorem BR.frozen {B : Nat} {ρ : Env} {w : World} {ob : AObj} {L : Loc} {C : Array Value} {f : Nat × Nat} (h : BR B ρ w ob L C f) (hro : ob.ro = false) {j : Nat} (hj : ob.fz ≤ j) (hs : L.sh + j < C.size) : w.frozen? ⟨L.blk, L.sh + j, none⟩ = false := by
  obtain ⟨lo, hi⟩ := f
  have := h.froz hro
  simp only [World.frozen?, h.heap]
  unfold Fz at this
  simp only at this
  rw [Bool.and_eq_false_iff]
  simp only [decide_eq_false_iff_not]
  omega
end Go.Ce
