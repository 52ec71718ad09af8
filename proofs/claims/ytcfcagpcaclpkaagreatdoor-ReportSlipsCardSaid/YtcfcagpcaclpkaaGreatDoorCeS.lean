/-
  A CLOSED EVALUATOR FOR THE MODEL: a region that draws its order: a new variable, a writer, and one that comes late. Conditions: the functions without a body are what the list says.
-/
import Derived.Test.YtcfcagpcaclpkaaGreatDoorCeR
namespace Go.Ce
open Go Go.RowKit

section
variable {P : Program} {w0 : World} {ops : Array Oper} {n : Nat} {ρ0 : Env} {A0 : AW} {pre : List Nat} {listed : Array Bool} {st : St} {ρ : Env} {a : Act} {w : World} {exts : List (Nat × Ext)} {ih : Task → Option Res}
def StillF (P : Program) (ops : Array Oper) (st : St) (x : Oper) : Prop :=
  (wantedA ops.toList st.fr x = some false ∧ ∀ t, x.dst = some t → st.fr.get t = some (.t [])) ∨
  (wantedA ops.toList st.fr x = some true ∧ isAl x.op = false ∧ ∃ v, evQ P x.op st.fr st.A = some v ∧ ∀ t, x.dst = some t → st.fr.get t = some v) ∨
  (wantedA ops.toList st.fr x = some true ∧ isAl x.op = true ∧ ∃ t b o, x.dst = some t ∧ st.fr.get t = some (.p b o))
theorem still_fact : ∀ {re : List Nat}, still P ops.toList st re = true → ∀ d ∈ re, ∀ x, ops[d]? = some x → StillF P ops st x
  | d' :: l, h, d, hd, x, hx => by
    simp only [still, Bool.and_eq_true] at h
    rcases List.mem_cons.1 hd with rfl | hd
    · have h1 := h.1
      rw [getN_eq, Array.getElem?_toList, hx] at h1
      simp only at h1
      cases hw : wantedA ops.toList st.fr x with
      | none => simp [hw] at h1
      | some b =>
        simp only [hw] at h1
        cases b with
        | false =>
          refine .inl ⟨hw, fun t ht => ?_⟩
          simp only [ht] at h1
          split at h1
          · rename_i heq; exact heq
          · cases h1
        | true =>
          simp only at h1
          split at h1
          · rename_i e he
            refine .inr (.inr ⟨hw, by rw [he]; rfl, ?_⟩)
            split at h1
            · rename_i t ht
              split at h1
              · rename_i b o hg
                exact ⟨t, b, o, ht, hg⟩
              · cases h1
            · cases h1
          · rename_i op hne
            have hal : isAl x.op = false := by
              cases hx' : x.op <;> first | rfl | exact absurd hx' (hne _)
            refine .inr (.inl ⟨hw, hal, ?_⟩)
            split at h1
            · rename_i v t hv ht
              split at h1
              · rename_i v' hv'
                have := ceq'_eq h1
                subst this
                refine ⟨v, hv, fun u hu => ?_⟩
                rw [ht] at hu
                injection hu with hu
                subst hu
                exact hv'
              · cases h1
            · rename_i v hv ht
              exact ⟨v, hv, fun u hu => by rw [ht] at hu; cases hu⟩
            · cases h1
    · exact still_fact h.2 d hd x hx
  | [], _, d, hd, _, _ => by cases hd
theorem pend_again {ρ' : Env} {st' : St} {x : Oper} (hP : Pend P ops n ρ A0 st x) (hS : StillF P ops st' x) (hd : ∀ t, x.dst = some t → st'.fr.get t = st.fr.get t) (hG : Good ρ st.A ρ' st'.A) : Pend P ops n ρ' A0 st' x := by
  refine ⟨hP.dst, ?_⟩
  rcases hS with h | h | ⟨h1, h2, t, b, o, h3, h4⟩
  · exact .inl h
  · exact .inr (.inl h)
  · rcases hP.rest with ⟨_, g⟩ | ⟨_, g, _⟩ | ⟨_, e, z, t', id, g1, g2, g3, g4, g5, g6, g7, g8⟩
    · rw [hd t h3, g t h3] at h4; cases h4
    · rw [h2] at g; cases g
    · exact .inr (.inr ⟨h1, e, z, t', id, g1, g2, g3, by rw [hd t' g2]; exact g4, by rw [hG.keep id g8 g6]; exact g5, by rw [hG.old id g8]; exact g6, g7, Nat.lt_of_lt_of_le g8 hG.next⟩)
theorem mem_again {i : Nat} {o : Oper} {d : Nat} (hd : d ∈ pre) {x : Oper} (hx : ops[d]? = some x) (hW : isW P x = false) (h : isAl o.op = true ∨ mem d ((getN (ancs ops.toList) i).getD []) = false) : d ∈ again P ops.toList (ancs ops.toList) pre i o := by
  unfold again
  rw [List.mem_filter]
  refine ⟨hd, ?_⟩
  have hg : getN ops.toList d = some x := by rw [getN_eq, Array.getElem?_toList]; exact hx
  simp only [hg, hW]
  rcases h with h | h <;> rw [h] <;> simp
theorem Inv.stepA (hI : Inv P w0 ops n ρ0 A0 pre listed st ρ a w) {i : Nat} {o : Oper} (ho : ops[i]? = some o) (hm : mayNext P ops.toList (ancs ops.toList) pre i o = true) (hW : isW P o = false) (hal : isAl o.op = true) (hw : wantedA ops.toList st.fr o = some true) {st' : St} (h : doAl P n o st = some st')
    (hs : still P ops.toList st' (again P ops.toList (ancs ops.toList) pre i o) = true) : Inv P w0 ops n ρ0 A0 (i :: pre) listed st' ρ a w := by
  have hM := may_of hm
  obtain ⟨t0, ht0⟩ := hM.alD hal
  have hop : ∃ e, o.op = .alloc e := by
    cases hx : o.op <;> rw [hx] at hal <;> simp [isAl] at hal
    exact ⟨_, rfl⟩
  obtain ⟨e, he⟩ := hop
  unfold doAl at h
  rw [he] at h
  simp only [evAl] at h
  cases hz : zeroA P e with
  | none => simp [hz] at h
  | some z =>
    simp only [hz] at h
    split at h
    · rename_i A' hA
      split at h
      · rename_i fr hp
        simp only [Option.some.injEq] at h
        subst h
        obtain ⟨p1, p2, p3⟩ := putD_some hp
        obtain ⟨v1, v2, v3, v4⟩ := hI.wr.virt hA
        have hown : ∀ t, t ∈ looks ops.toList o → o.dst ≠ some t := by
          intro t ht e
          rcases hM.own with h | h
          · rw [hW] at h; cases h
          · rw [e, memO_some.2 ht] at h; cases h
        have hsm := same_get (P := P) (x := o) (ol := ops.toList) (fr := st.fr) (fr' := fr) (A := st.A) (fun t ht => p3 t (hown t ht))
        have hnx : A'.next = st.A.next + 1 := (AW.new_some hA).1
        refine hI.next ho hm hW (st' := ⟨fr, A'⟩) hp v1 (hI.good.trans v2) ⟨p1, .inr (.inr ⟨by rw [hsm.2]; exact hw, e, z, t0, st.A.next, he, ht0, hz, p2 hI.lim t0 ht0, v3, v4, hI.good.next, by simp only; omega⟩)⟩ ?_ (fun _ t id ht hg => ?_)
        · intro d hd hu x hx
          have hWx := hI.notW hd hu hx
          exact pend_again (hI.pend d hd hu x hx) (still_fact hs d (mem_again hd hx hWx (.inl hal)) x hx) (fun t ht => p3 t (hI.unseen hM hW hd hu hx (.inr ht))) v2
        · have := p2 hI.lim t ht
          rw [hg] at this
          injection this with this
          injection this with this
          omega
      · cases h
    · cases h

/-! ### In the world -/
theorem getD_set {l : Array Bool} {i j : Nat} (hi : i < l.size) : (l.setIfInBounds i true).getD j false = if j = i then true else l.getD j false := by
  by_cases e : j = i
  · subst e; simp [hi]
  · rw [if_neg e]
    simp [Array.getD_eq_getD_getElem?, Array.getElem?_setIfInBounds_ne (Ne.symm e)]
theorem un_set {l : Array Bool} {i j : Nat} (hi : i < l.size) : un (l.setIfInBounds i true) j ↔ j ≠ i ∧ un l j := by
  unfold un
  rw [getD_set hi]
  by_cases e : j = i
  · simp [e]
  · simp [e]
theorem Closed.set {l : Array Bool} (hc : Closed ops l) {i : Nat} {o : Oper} (ho : ops[i]? = some o) (hi : i < l.size) (hr : ∀ x ∈ waits o, l.getD x false = true) : Closed ops (l.setIfInBounds i true) := by
  intro j q hj hl d hd
  rw [getD_set hi] at hl ⊢
  by_cases e : j = i
  · subst e
    rw [ho] at hj
    simp only [Option.some.injEq] at hj
    subst hj
    rw [hr d hd]; simp
  · rw [if_neg e] at hl
    rw [hc j q hj hl d hd]; simp
/-- A value that comes into its temporary. -/
theorem put_get {a : Act} {d : Option Tmp} {z : Value} (t : Nat) (h : ∀ u, d = some u → u < a.tmps.size) : (d = some t → (a.put d z).tmps[t]? = some z) ∧ (d ≠ some t → (a.put d z).tmps[t]? = a.tmps[t]?) := by
  cases d with
  | none => exact ⟨by simp, fun _ => rfl⟩
  | some u =>
    have hu := h u rfl
    refine ⟨fun e => ?_, fun e => ?_⟩
    · injection e with e; subst e; simp [Act.put, hu]
    · simp only [Act.put]
      rw [Array.getElem?_setIfInBounds_ne (fun x => e (by rw [x]))]
end
end Go.Ce
