/-
  A CLOSED EVALUATOR FOR THE MODEL: stores, marks, append. Conditions: none.
-/
import Derived.Test.YtcfcagpcaclpkaaGreatDoorCeI
namespace Go.Ce
open Go Go.RowKit

/-- What an operation that turns the world leaves. -/
def Out (w0 : World) (ρ : Env) (A : AW) (v : CV) (A' : AW) (x : Value) (w' : World) : Prop := ∃ ρ', WR w0 ρ' A' w' ∧ Good ρ A ρ' A' ∧ conc ρ' v = some x
section
variable {P : Program} {w0 : World} {ρ : Env} {A : AW} {w : World} {fr : T CV} {a : Act}
/-- Cells stored into a live block, from a place on that is not frozen. -/
theorem store_block (hw : WR w0 ρ A w) {b off : Nat} {ob : AObj} {L : Loc} (hb : A.heap.get b = some ob) (hro : ob.ro = false) (hL : ρ b = some L) {vs cs : List CV} {xs : List Value} (hv : concL ρ vs = some xs) (h1 : allOne vs = true) (hs : setL ob.cells off vs = some cs) (hfz : ob.fz ≤ off) (hne : vs ≠ []) :
    ∃ w', (storeCells ⟨L.blk, L.sh + off, none⟩ xs).run P w = .ok () w' ∧ WR w0 ρ (A.put b (some { ob with cells := cs })) w' ∧ Good ρ A ρ (A.put b (some { ob with cells := cs })) := by
  obtain ⟨C, f, hB⟩ := hw.blk b ob L hb hL
  obtain ⟨s1, s2, s3⟩ := setL_some hs
  have hlen := concL_len hv
  have hs2 := s2 hne
  have hvl : 0 < vs.length := List.length_pos_iff.2 hne
  have hin : L.sh + off + xs.length ≤ C.size := by
    have hlast : off + vs.length - 1 < ob.cells.length := by omega
    obtain ⟨x, _, e2⟩ := hB.cell _ _ (List.getElem?_eq_getElem hlast)
    have := (Array.getElem?_eq_some_iff.1 e2).1
    omega
  have hrun := storeCells_run (P := P) L.blk (L.sh + off) ob.el f xs 0 C w hB.heap (by simpa using hin) (fun j h2 h3 => by
    obtain ⟨i, rfl⟩ : ∃ i, j = L.sh + i := ⟨j - L.sh, by omega⟩
    exact hB.frozen hro (by omega) h3) (allOne_conc h1 hv)
  simp only [Nat.add_zero] at hrun
  let C' : Array Value := (C.toList.take (L.sh + off) ++ xs ++ C.toList.drop (L.sh + off + xs.length)).toArray
  have hC' : C'.size = C.size := by simp [C']; omega
  have hget : ∀ j, C'[j]? = if L.sh + off ≤ j ∧ j < L.sh + off + xs.length then xs[j - (L.sh + off)]? else C[j]? := by
    intro j
    simp only [C', List.getElem?_toArray]
    by_cases h : j < L.sh + off
    · rw [if_neg (by omega), List.append_assoc, List.getElem?_append_left (by simp; omega), List.getElem?_take_of_lt h]; simp
    · by_cases h' : j < L.sh + off + xs.length
      · rw [if_pos (by omega), List.append_assoc, List.getElem?_append_right (by simp; omega), List.getElem?_append_left (by simp; omega)]
        congr 1
        simp; omega
      · rw [if_neg (by omega), List.getElem?_append_right (by simp; omega), List.getElem?_drop]
        simp
        congr 1
        omega
  obtain ⟨g1, g2⟩ := hw.upd hb hro hL (ob' := { ob with cells := cs }) (w.setRow L.blk C') (by simp) rfl rfl rfl (fun k hk => setRow_other w L.blk k C' hk)
    ⟨C', f, hB.base, setRow_heap w L.blk C C' ob.el f hB.heap, fun j v hj => by
      simp only at hj
      rw [s3 j] at hj
      rw [hget]
      by_cases h : off ≤ j ∧ j < off + vs.length
      · rw [if_pos h] at hj
        rw [if_pos (by omega)]
        obtain ⟨x, e1, e2⟩ := concL_get hv _ _ hj
        exact ⟨x, e1, by rw [show L.sh + j - (L.sh + off) = j - off by omega]; exact e2⟩
      · rw [if_neg h] at hj
        rw [if_neg (by omega)]
        exact hB.cell j v hj, by rw [hC']; exact hB.froz, hB.esz, by rw [hC']; exact hB.room, hB.shz⟩
  exact ⟨_, hrun, g1, g2⟩
theorem storeA_run (hw : WR w0 ρ A w) {t : TypeId} {b off : Nat} {v : CV} {A' : AW} (h : storeA P A t b off v = some A') {L : Loc} (hL : ρ b = some L) {X : Value} (hX : conc ρ v = some X) :
    ∃ w', (storeVar t ⟨L.blk, L.sh + off, none⟩ X).run P w = .ok () w' ∧ WR w0 ρ A' w' ∧ Good ρ A ρ A' := by
  unfold storeA at h
  split at h
  · rename_i ob n hb hn
    obtain ⟨h1, h2⟩ := cond_some h
    obtain ⟨h1, h5⟩ := andT h1
    obtain ⟨h1, h4⟩ := andT h1
    obtain ⟨h1, hro⟩ := andT h1
    simp only [Bool.not_eq_true'] at hro
    obtain ⟨h1, h3⟩ := andT h1
    rw [beqN_iff, lenN_eq] at h1
    have hn0 := beqF h5
    have h3 := Nat.le_of_ble_eq_true h3
    split at h2
    · rename_i cs hcs
      simp only [Option.some.injEq] at h2
      subst h2
      have hcc := conc_cells hX
      have hl := concL_len hcc
      have hne : v.cells ≠ [] := fun e => by
        rw [e] at h1
        simp at h1
        exact hn0 h1.symm
      obtain ⟨w', e1, e2, e3⟩ := store_block (P := P) hw hb hro hL hcc h4 hcs h3 hne
      refine ⟨w', ?_, e2, e3⟩
      have hsz : ¬ X.cells.size ≠ n := by simp at hl; omega
      simp only [storeVar, Sem.run_bind, sizeOf_run hn, Result.andThen_ok, hsz, if_false]
      exact e1
    · cases h2
  · cases h
/-- A mark, or bytes that a text shares: the frozen cells of a live block. -/
theorem freeze_block (hw : WR w0 ρ A w) {b : Nat} {ob ob' : AObj} {L : Loc} (hb : A.heap.get b = some ob) (hro : ob.ro = false) (hL : ρ b = some L) (o n : Nat) (hn : 0 < n) (hc : ob'.cells = ob.cells) (he : ob'.el = ob.el) (hs : ob'.esz = ob.esz)
    (hf : ∀ size f, Fz size f L.sh ob.fz ob.fb → (∀ C g, w.heap[L.blk]? = some (.cells C ob.el g) → size = C.size ∧ f = g) → Fz size (if f.1 == f.2 then (o, o + n) else (min f.1 o, max f.2 (o + n))) L.sh ob'.fz ob'.fb) :
    WR w0 ρ (A.put b (some ob')) (w.freeze ⟨L.blk, o, none⟩ n) ∧ Good ρ A ρ (A.put b (some ob')) := by
  obtain ⟨C, f, hB⟩ := hw.blk b ob L hb hL
  have hn0 : ¬ n = 0 := by omega
  have hheap : (w.freeze ⟨L.blk, o, none⟩ n).heap[L.blk]? = some (.cells C ob.el (if f.1 == f.2 then (o, o + n) else (min f.1 o, max f.2 (o + n)))) := by
    obtain ⟨lo, hi⟩ := f
    simp [World.freeze, hn0, Array.getElem?_modify, hB.heap]
  refine hw.upd hb hro hL _ (by simp [World.freeze, hn0]) (by simp [World.freeze, hn0]) (by simp [World.freeze, hn0]) (by simp [World.freeze, hn0]) (fun k hk => by simp [World.freeze, hn0, Array.getElem?_modify, Ne.symm hk])
    ⟨C, _, fun _ => hB.base hro, by rw [he]; exact hheap, fun j v hj => by rw [hc] at hj; exact hB.cell j v hj, fun _ => hf _ _ (hB.froz hro) (fun C' g hg => by rw [hB.heap] at hg; simp only [Option.some.injEq, Obj.cells.injEq] at hg; exact ⟨by rw [hg.1], hg.2.2⟩), by rw [hs]; exact hB.esz, hB.room, by rw [hs]; exact hB.shz⟩
theorem markA_run (hw : WR w0 ρ A w) {b : Nat} {A' : AW} (h : markA A b = some A') {L : Loc} (hL : ρ b = some L) (i : Nat) :
    ∃ w', (markStringish ⟨L.blk, i, none⟩).run P w = .ok () w' ∧ WR w0 ρ A' w' ∧ Good ρ A ρ A' := by
  unfold markA at h
  split at h
  · rename_i ob hb
    obtain ⟨h1, h2⟩ := cond_some h
    simp only [Option.some.injEq] at h2
    subst h2
    obtain ⟨h1, hro⟩ := andT h1
    simp only [Bool.not_eq_true'] at hro
    obtain ⟨h1, h1e⟩ := andT h1
    rw [beqN_iff] at h1 h1e
    obtain ⟨C, f, hB⟩ := hw.blk b ob L hb hL
    have hsh : w.shape? L.blk = some (ob.el, C.size) := by simp [World.shape?, hB.heap]
    obtain ⟨g1, g2⟩ := freeze_block (ob' := { ob with fb := true }) hw hb hro hL C.size 1 (by omega) rfl rfl rfl (fun size g hg hx => by
      obtain ⟨rfl, rfl⟩ := hx C f hB.heap
      have hz := hB.shz h1e
      obtain ⟨lo, hi⟩ := g
      unfold Fz at hg ⊢
      simp only [hz, h1] at hg ⊢
      by_cases hne : lo = hi
      · subst hne
        simp
      · rw [if_neg (by simpa using hne)]
        rcases hg with hg | ⟨hg1, hg2, hg3⟩ | ⟨hg1, hg2, hg3⟩
        · exact absurd hg hne
        · exact .inr (.inl ⟨by simp, by simp, by simp only; omega⟩)
        · omega)
    refine ⟨_, ?_, g1, g2⟩
    simp only [markStringish, Sem.run_bind, run_shape, hsh, Result.andThen_ok, run_freeze]
  · cases h
end
end Go.Ce
