/-
  A CLOSED EVALUATOR FOR THE MODEL: what a new block, a store and a mark do to a symbolic memory. Conditions: none.
-/
import Derived.Test.YtcfcagpcaclpkaaGreatDoorCeG
namespace Go.Ce
open Go Go.RowKit

/-! ### The machine's memory -/
theorem AW.new_some {A A' : AW} {ob : AObj} (h : A.new ob = some A') : A'.next = A.next + 1 ∧ A'.heap.get A.next = some ob ∧ ∀ b, b ≠ A.next → A'.heap.get b = A.heap.get b := by
  unfold AW.new at h
  rw [forceNat_eq] at h
  simp only [Option.some.injEq] at h
  subst h
  exact ⟨rfl, T.get_up_same _ _ _, fun b hb => T.get_up_other _ _ hb⟩
theorem AW.put_get (A : AW) (b : Nat) (o : Option AObj) : (A.put b o).heap.get b = o ∧ (A.put b o).next = A.next ∧ ∀ c, c ≠ b → (A.put b o).heap.get c = A.heap.get c :=
  ⟨T.get_up_same _ _ _, rfl, fun c hc => T.get_up_other _ _ hc⟩
def Env.set (ρ : Env) (n : Nat) (L : Loc) : Env := fun b => if b = n then some L else ρ b
theorem Env.set_same (ρ : Env) (n : Nat) (L : Loc) : ρ.set n L n = some L := if_pos rfl
theorem Env.set_other (ρ : Env) {n b : Nat} (L : Loc) (h : b ≠ n) : ρ.set n L b = ρ b := if_neg h
theorem Env.set_le {ρ : Env} {n : Nat} {L : Loc} (h : ρ n = none) : ρ.le (ρ.set n L) := fun b M hb => by
  by_cases e : b = n
  · subst e; rw [h] at hb; cases hb
  · rw [Env.set_other ρ L e]; exact hb

section
variable {P : Program} {w0 : World} {ρ : Env} {A : AW} {w : World}
theorem WR.lt (hw : WR w0 ρ A w) {b : Nat} {ob : AObj} (h : A.heap.get b = some ob) : b < A.next := by
  apply Nat.lt_of_not_le
  intro hle
  rw [hw.dead b hle] at h
  cases h
theorem WR.noneAt (hw : WR w0 ρ A w) {b : Nat} (h : A.next ≤ b) : ρ b = none := by
  cases hb : ρ b with
  | none => rfl
  | some L => have := hw.dom b L hb; omega
/-- A block that the machine has, and the world not yet. -/
theorem WR.virt (hw : WR w0 ρ A w) {ob : AObj} {A' : AW} (h : A.new ob = some A') : WR w0 ρ A' w ∧ Good ρ A ρ A' ∧ A'.heap.get A.next = some ob ∧ ρ A.next = none := by
  obtain ⟨h2, h3, h4⟩ := AW.new_some h
  have hn := hw.noneAt (Nat.le_refl A.next)
  have hne : ∀ b L, ρ b = some L → b ≠ A.next := fun b L hb e => by subst e; rw [hn] at hb; cases hb
  refine ⟨⟨hw.below, fun b L hb => by have := hw.dom b L hb; omega, fun b hb => ?_, fun b ob' L hb hL => ?_, fun b b' o o' L L' hb hb' hL hL' hro he => ?_⟩, ⟨fun _ _ => rfl, by omega, fun b hb _ => h4 b (by omega)⟩, h3, hn⟩
  · rw [h4 b (by omega)]; exact hw.dead b (by omega)
  · rw [h4 b (hne b L hL)] at hb; exact hw.blk b ob' L hb hL
  · rw [h4 b (hne b L hL)] at hb
    rw [h4 b' (hne b' L' hL')] at hb'
    exact hw.inj b b' o o' L L' hb hb' hL hL' hro he
theorem heap_lt {w : World} {i : Nat} {o : Obj} (h : w.heap[i]? = some o) : i < w.heap.size := (Array.getElem?_eq_some_iff.1 h).1
theorem WR.blk_lt (hw : WR w0 ρ A w) {b : Nat} {ob : AObj} {L : Loc} (hb : A.heap.get b = some ob) (hL : ρ b = some L) : L.blk < w.heap.size := by
  obtain ⟨C, f, hB⟩ := hw.blk b ob L hb hL
  exact heap_lt hB.heap
/-- A block of the machine's comes to be in the world. -/
theorem WR.real (hw : WR w0 ρ A w) {n : Nat} {ob : AObj} (hob : A.heap.get n = some ob) (hn : ρ n = none) {C : Array Value} {f : Nat × Nat} {cap esz : Nat} (w' : World) (hw' : w'.heap = w.heap.push (.cells C ob.el f)) (hos : w'.os = w.os) (htape : w'.tape = w.tape) (hout : w'.output = w.output)
    (hc : ∀ (j : Nat) v, ob.cells[j]? = some v → ∃ x, conc ρ v = some x ∧ C[j]? = some x) (hf : Fz C.size f 0 ob.fz ob.fb) (hes : esz = ob.esz) (hroom : cap * esz ≤ C.size) :
    WR w0 (ρ.set n ⟨w.heap.size, 0, cap, esz⟩) A w' ∧ ρ.le (ρ.set n ⟨w.heap.size, 0, cap, esz⟩) := by
  have hle := Env.set_le (L := ⟨w.heap.size, 0, cap, esz⟩) hn
  have hold : ∀ k, k < w.heap.size → w'.heap[k]? = w.heap[k]? := fun k hk => by rw [hw', Array.getElem?_push, if_neg (by omega)]
  have hnew : w'.heap[w.heap.size]? = some (.cells C ob.el f) := by rw [hw', Array.getElem?_push, if_pos rfl]
  have hsz : w'.heap.size = w.heap.size + 1 := by rw [hw']; simp
  have hB0 := hw.below.size
  refine ⟨⟨hw.below.trans ⟨hos, htape, hout, by omega, fun k hk => hold k (by omega)⟩, fun b L hb => ?_, hw.dead, fun b ob' L hb hL => ?_, fun b b' o o' L L' hb hb' hL hL' hro he => ?_⟩, hle⟩
  · by_cases e : b = n
    · subst e; exact hw.lt hob
    · rw [Env.set_other ρ _ e] at hb; exact hw.dom b L hb
  · by_cases e : b = n
    · subst e
      rw [Env.set_same] at hL
      simp only [Option.some.injEq] at hL
      subst hL
      rw [hob] at hb
      simp only [Option.some.injEq] at hb
      subst hb
      exact ⟨C, f, fun _ => hB0, hnew, fun j v hj => by
        obtain ⟨x, e1, e2⟩ := hc j v hj
        exact ⟨x, conc_mono hle v x e1, by simpa using e2⟩, fun _ => hf, hes, by simpa using hroom, fun _ => rfl⟩
    · rw [Env.set_other ρ _ e] at hL
      obtain ⟨D, g, hB⟩ := hw.blk b ob' L hb hL
      exact ⟨D, g, hB.base, by rw [hold _ (heap_lt hB.heap)]; exact hB.heap, fun j v hj => by
        obtain ⟨x, e1, e2⟩ := hB.cell j v hj
        exact ⟨x, conc_mono hle v x e1, e2⟩, hB.froz, hB.esz, hB.room, hB.shz⟩
  · by_cases e : b = n <;> by_cases e' : b' = n
    · omega
    · subst e
      rw [Env.set_same] at hL
      simp only [Option.some.injEq] at hL
      subst hL
      rw [Env.set_other ρ _ e'] at hL'
      have := hw.blk_lt hb' hL'
      simp only at he
      omega
    · subst e'
      rw [Env.set_same] at hL'
      simp only [Option.some.injEq] at hL'
      subst hL'
      rw [Env.set_other ρ _ e] at hL
      have := hw.blk_lt hb hL
      simp only at he
      omega
    · rw [Env.set_other ρ _ e] at hL
      rw [Env.set_other ρ _ e'] at hL'
      exact hw.inj b b' o o' L L' hb hb' hL hL' hro he
/-- A live block is written. -/
theorem WR.upd (hw : WR w0 ρ A w) {b : Nat} {ob ob' : AObj} {L : Loc} (hb : A.heap.get b = some ob) (hro : ob.ro = false) (hL : ρ b = some L) (w' : World) (hsz : w'.heap.size = w.heap.size) (hos : w'.os = w.os) (htape : w'.tape = w.tape) (hout : w'.output = w.output)
    (hother : ∀ k, k ≠ L.blk → w'.heap[k]? = w.heap[k]?) (hnew : ∃ C f, BR w0.heap.size ρ w' ob' L C f) : WR w0 ρ (A.put b (some ob')) w' ∧ Good ρ A ρ (A.put b (some ob')) := by
  have hlt := hw.lt hb
  obtain ⟨p1, p2, p3⟩ := AW.put_get A b (some ob')
  have hbase : w0.heap.size ≤ L.blk := by obtain ⟨C, f, hB⟩ := hw.blk b ob L hb hL; exact hB.base hro
  refine ⟨⟨hw.below.trans ⟨hos, htape, hout, by omega, fun k hk => hother k (by omega)⟩, hw.dom, fun c hc => ?_, fun c oc M hc hM => ?_, fun c c' o o' M M' hc hc' hM hM' ho he => ?_⟩, ⟨fun _ _ => rfl, Nat.le_refl _, fun c hc hn => p3 c (fun e => by subst e; rw [hn] at hL; cases hL)⟩⟩
  · rw [p3 c (by rw [p2] at hc; omega)]; exact hw.dead c (by rw [p2] at hc; exact hc)
  · by_cases e : c = b
    · subst e
      rw [hL] at hM
      simp only [Option.some.injEq] at hM
      subst hM
      rw [p1] at hc
      simp only [Option.some.injEq] at hc
      subst hc
      exact hnew
    · rw [p3 c e] at hc
      obtain ⟨D, g, hB⟩ := hw.blk c oc M hc hM
      have hne : M.blk ≠ L.blk := fun h => e (hw.inj b c ob oc L M hb hc hL hM hro h.symm).symm
      exact ⟨D, g, hB.base, by rw [hother _ hne]; exact hB.heap, hB.cell, hB.froz, hB.esz, hB.room, hB.shz⟩
  · have hc1 : ∃ o1, A.heap.get c = some o1 ∧ o1.ro = false := by
      by_cases e : c = b
      · exact ⟨ob, by rw [e]; exact hb, hro⟩
      · exact ⟨o, by rw [← p3 c e]; exact hc, ho⟩
    have hc2 : ∃ o1, A.heap.get c' = some o1 := by
      by_cases e : c' = b
      · exact ⟨ob, by rw [e]; exact hb⟩
      · exact ⟨o', by rw [← p3 c' e]; exact hc'⟩
    obtain ⟨o1, g1, g0⟩ := hc1
    obtain ⟨o2, g2⟩ := hc2
    exact hw.inj c c' o1 o2 M M' g1 g2 hM hM' g0 he
/-- A block is forgotten. -/
theorem WR.kill (hw : WR w0 ρ A w) {b : Nat} {ob : AObj} (hb : A.heap.get b = some ob) {L : Loc} (hL : ρ b = some L) : WR w0 ρ (A.put b none) w ∧ Good ρ A ρ (A.put b none) := by
  have hlt := hw.lt hb
  obtain ⟨p1, p2, p3⟩ := AW.put_get A b none
  have hne : ∀ c o, (A.put b none).heap.get c = some o → c ≠ b := fun c o hc e => by subst e; rw [p1] at hc; cases hc
  refine ⟨⟨hw.below, hw.dom, fun c hc => ?_, fun c oc M hc hM => ?_, fun c c' o o' M M' hc hc' hM hM' ho he => ?_⟩, ⟨fun _ _ => rfl, Nat.le_refl _, fun c hc hn => p3 c (fun e => by subst e; rw [hn] at hL; cases hL)⟩⟩
  · rw [p3 c (by rw [p2] at hc; omega)]; exact hw.dead c (by rw [p2] at hc; exact hc)
  · rw [p3 c (hne c oc hc)] at hc; exact hw.blk c oc M hc hM
  · rw [p3 c (hne c o hc)] at hc
    rw [p3 c' (hne c' o' hc')] at hc'
    exact hw.inj c c' o o' M M' hc hc' hM hM' ho he

/-! ### Cells stored one behind the other -/
theorem storeCells_run (g o : Nat) (t : TypeId) (f : Nat × Nat) : ∀ (vs : List Value) (i : Nat) (cur : Array Value) (w : World), w.heap[g]? = some (.cells cur t f) → o + i + vs.length ≤ cur.size → (∀ j, o + i ≤ j → j < cur.size → w.frozen? ⟨g, j, none⟩ = false) → (∀ v ∈ vs, v.oneCell' = true) →
    (storeCells ⟨g, o, none⟩ vs i).run P w = .ok () (w.setRow g (cur.toList.take (o + i) ++ vs ++ cur.toList.drop (o + i + vs.length)).toArray)
  | [], i, cur, w, hg, _, _, _ => by
    simp only [storeCells, List.append_nil, List.length_nil, Nat.add_zero, List.take_append_drop, Array.toArray_toList]
    rw [setRow_self w g cur t f hg]
    rfl
  | v :: rest, i, cur, w, hg, hl, hfz, h1 => by
    have hi : o + i < cur.size := by simp at hl; omega
    have hadd : (⟨g, o, none⟩ : Addr).add i = ⟨g, o + i, none⟩ := Addr.add_lit _ _ _
    have hcell : w.cell? ⟨g, o + i, none⟩ = some cur[o + i] := by simp [World.cell?, hg, hi]
    have hfro : w.frozen? ⟨g, o + i, none⟩ = false := hfz _ (Nat.le_refl _) hi
    have hst : (store ((⟨g, o, none⟩ : Addr).add i) v).run P w = .ok () (w.setRow g (cur.setIfInBounds (o + i) v)) := by
      rw [hadd, run_store P w _ v _ (h1 v (by simp)), hcell]
      simp [hfro, setCell_eq_setRow w g (o + i) cur t f v hg]
    have ih := storeCells_run g o t f rest (i + 1) (cur.setIfInBounds (o + i) v) (w.setRow g (cur.setIfInBounds (o + i) v)) (setRow_heap w g cur _ t f hg) (by simp at hl ⊢; omega) (fun j h2 h3 => by
      have := hfz j (by omega) (by simpa using h3)
      simp only [World.frozen?, setRow_heap w g cur _ t f hg]
      simp only [World.frozen?, hg] at this
      exact this) (fun x hx => h1 x (by simp [hx]))
    simp only [storeCells, Sem.run_bind, hst, Result.andThen_ok, ih, setRow_setRow]
    congr 3
    have e := list_seg_step cur.toList (o + i) v rest (by simp at hl ⊢; omega)
    simpa [Array.toList_setIfInBounds, Nat.add_assoc] using e
end
end Go.Ce
