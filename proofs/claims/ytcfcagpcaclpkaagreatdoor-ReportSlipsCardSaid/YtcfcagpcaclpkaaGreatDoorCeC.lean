/-
  A CLOSED EVALUATOR FOR THE MODEL: each quiet operation of the machine says what the model's own operation does. Conditions: none.
-/
import Derived.Test.YtcfcagpcaclpkaaGreatDoorCeB
namespace Go.Ce
open Go Go.RowKit

section
variable {P : Program}
theorem isAgg_run {t : TypeId} {b : Bool} (h : aggP P t = some b) (w : World) : (isAgg t).run P w = .ok b w := by
  unfold aggP at h
  cases hu : P.underlying t with
  | none => simp [hu] at h
  | some d =>
    simp only [isAgg, Sem.run_bind, run_underlying hu, Result.andThen_ok]
    cases d <;> simp [hu] at h <;> subst h <;> rfl
theorem sizeOf_run {t : TypeId} {n : Nat} (h : sizeP P t = some n) (w : World) : (sizeOf t).run P w = .ok n w := by
  unfold sizeP at h
  cases hi : P.info? t with
  | none => simp [hi] at h
  | some i => simp [hi] at h; subst h; simp [sizeOf, typeInfo, hi]
theorem part_run {ρ : Env} {t : TypeId} {cs : List CV} {xs : List Value} {off : Nat} {v : CV} (h : partA P t cs off = some v) (hc : concL ρ cs = some xs) (w : World) :
    ∃ x, conc ρ v = some x ∧ (part t xs.toArray off).run P w = .ok x w := by
  unfold partA at h
  cases hb : aggP P t with
  | none => simp [hb] at h
  | some b =>
    cases b with
    | true =>
      simp only [hb] at h
      cases hn : sizeP P t with
      | none => simp [hn] at h
      | some n =>
        simp only [hn] at h
        cases hs : subN cs off n with
        | none => simp [hs] at h
        | some l =>
          simp only [hs, Option.some.injEq] at h
          subst h
          refine ⟨.agg ((xs.drop off).take n).toArray, by simp [conc, concL_sub hc hs], ?_⟩
          simp only [part, Sem.run_bind, isAgg_run hb, Result.andThen_ok, if_true, sizeOf_run hn, Sem.run_pure]
          congr 2
          apply Array.ext'
          simp [List.extract_eq_take_drop]
    | false =>
      simp only [hb] at h
      rw [getN_eq] at h
      obtain ⟨x, h1, h2⟩ := concL_get hc off v h
      refine ⟨x, h1, ?_⟩
      simp [part, isAgg_run hb, h2]
theorem part_cells {ρ : Env} {t : TypeId} {cs : List CV} {off : Nat} {v : CV} (h : partA P t cs off = some v) (a : Addr) (w : World)
    (hc : ∀ j c, cs[j]? = some c → ∃ x, conc ρ c = some x ∧ w.cell? ⟨a.block, a.off + j, none⟩ = some x) :
    ∃ x, conc ρ v = some x ∧ (loadVar t ⟨a.block, a.off + off, none⟩).run P w = .ok x w := by
  unfold partA at h
  cases hb : aggP P t with
  | none => simp [hb] at h
  | some b =>
    cases b with
    | true =>
      simp only [hb] at h
      cases hn : sizeP P t with
      | none => simp [hn] at h
      | some n =>
        simp only [hn] at h
        cases hs : subN cs off n with
        | none => simp [hs] at h
        | some l =>
          simp only [hs, Option.some.injEq] at h
          subst h
          obtain ⟨h1, h2⟩ := subN_get hs
          have hex : ∀ j, j < n → ∃ c x, l[j]? = some c ∧ conc ρ c = some x ∧ w.cell? ⟨a.block, a.off + off + j, none⟩ = some x := by
            intro j hj
            have hl : l[j]? = some (l[j]'(by omega)) := List.getElem?_eq_getElem (by omega)
            have := h2 j hj
            rw [hl] at this
            obtain ⟨x, e1, e2⟩ := hc _ _ this.symm
            exact ⟨_, x, hl, e1, by rw [Nat.add_assoc]; exact e2⟩
          let xs : List Value := (List.range n).map fun j => (w.cell? ⟨a.block, a.off + off + j, none⟩).getD undef
          have hxl : xs.length = n := by simp [xs]
          have hx : ∀ (j : Nat) v, xs[j]? = some v → w.cell? ((⟨a.block, a.off + off, none⟩ : Addr).add j) = some v := by
            intro j v hv
            have hj : j < n := by have := (List.getElem?_eq_some_iff.1 hv).1; omega
            obtain ⟨c, x, _, _, e3⟩ := hex j hj
            simp [xs, hj, e3] at hv
            rw [Addr.add_lit, e3, hv]
          refine ⟨.agg xs.toArray, ?_, ?_⟩
          · have : concL ρ l = some xs := concL_of (by omega) fun j c hcj => by
              have hj : j < n := by have := (List.getElem?_eq_some_iff.1 hcj).1; omega
              obtain ⟨c', x, e1, e2, e3⟩ := hex j hj
              rw [hcj] at e1; simp at e1; subst e1
              exact ⟨x, e2, by simp [xs, hj, e3]⟩
            simp [conc, this]
          · have hrun := run_loadCells_list (P := P) w ⟨a.block, a.off + off, none⟩ xs hx
            rw [hxl] at hrun
            simp [loadVar, isAgg_run hb, sizeOf_run hn, hrun]
    | false =>
      simp only [hb] at h
      rw [getN_eq] at h
      obtain ⟨x, h1, h2⟩ := hc off v h
      exact ⟨x, h1, by simp [loadVar, isAgg_run hb, h2]⟩
end

section
variable {P : Program} {w0 : World} {ρ : Env} {A : AW} {w : World}
/-- The cells of a live block, in the world. -/
theorem WR.cell (hw : WR w0 ρ A w) {b : Nat} {ob : AObj} {L : Loc} (hb : A.heap.get b = some ob) (hL : ρ b = some L) {j : Nat} {v : CV} (hj : ob.cells[j]? = some v) :
    ∃ x, conc ρ v = some x ∧ w.cell? ⟨L.blk, L.sh + j, none⟩ = some x := by
  obtain ⟨C, f, hB⟩ := hw.blk b ob L hb hL
  obtain ⟨x, h1, h2⟩ := hB.cell j v hj
  exact ⟨x, h1, by rw [hB.cell?, h2]⟩
theorem load_run (hw : WR w0 ρ A w) {t : TypeId} {b off : Nat} {v : CV} (h : loadA P A t b off = some v) {L : Loc} (hL : ρ b = some L) :
    ∃ x, conc ρ v = some x ∧ (loadVar t ⟨L.blk, L.sh + off, none⟩).run P w = .ok x w := by
  unfold loadA at h
  cases hb : A.heap.get b with
  | none => simp [hb] at h
  | some ob =>
    simp only [hb] at h
    exact part_cells h ⟨L.blk, L.sh, none⟩ w fun j c hj => hw.cell hb hL hj
/-- Cells from a place on, loaded. -/
theorem cells_run (hw : WR w0 ρ A w) {b : Nat} {ob : AObj} {L : Loc} (hb : A.heap.get b = some ob) (hL : ρ b = some L) {o n : Nat} {l : List CV} (hs : subN ob.cells o n = some l) :
    ∃ xs, concL ρ l = some xs ∧ xs.length = n ∧ (∀ (j : Nat) v, xs[j]? = some v → w.cell? ((⟨L.blk, L.sh + o, none⟩ : Addr).add j) = some v) ∧ (loadCells ⟨L.blk, L.sh + o, none⟩ n).run P w = .ok xs.toArray w := by
  obtain ⟨h1, h2⟩ := subN_get hs
  have hex : ∀ j, j < n → ∃ c x, l[j]? = some c ∧ conc ρ c = some x ∧ w.cell? ⟨L.blk, L.sh + o + j, none⟩ = some x := by
    intro j hj
    have hl : l[j]? = some (l[j]'(by omega)) := List.getElem?_eq_getElem (by omega)
    have := h2 j hj
    rw [hl] at this
    obtain ⟨x, e1, e2⟩ := hw.cell hb hL this.symm
    exact ⟨_, x, hl, e1, by rw [Nat.add_assoc]; exact e2⟩
  let xs : List Value := (List.range n).map fun j => (w.cell? ⟨L.blk, L.sh + o + j, none⟩).getD undef
  have hxl : xs.length = n := by simp [xs]
  have hx : ∀ (j : Nat) v, xs[j]? = some v → w.cell? ((⟨L.blk, L.sh + o, none⟩ : Addr).add j) = some v := by
    intro j v hv
    have hj : j < n := by have := (List.getElem?_eq_some_iff.1 hv).1; omega
    obtain ⟨c, x, _, _, e3⟩ := hex j hj
    simp [xs, hj, e3] at hv
    rw [Addr.add_lit, e3, hv]
  refine ⟨xs, ?_, hxl, hx, ?_⟩
  · refine concL_of (by omega) fun j c hcj => ?_
    have hj : j < n := by have := (List.getElem?_eq_some_iff.1 hcj).1; omega
    obtain ⟨c', x, e1, e2, e3⟩ := hex j hj
    rw [hcj] at e1; simp at e1; subst e1
    exact ⟨x, e2, by simp [xs, hj, e3]⟩
  · have hrun := run_loadCells_list (P := P) w ⟨L.blk, L.sh + o, none⟩ xs hx
    rw [hxl] at hrun
    exact hrun
end

/-! ### Numbers and texts -/
section
variable {P : Program} {ρ : Env} (w : World)
theorem intBin_run {op : BinOp} {k : IntKind} {m n : Int} {v : CV} (h : intBin op k m n = some v) (hs : isShift op = false) :
    ∃ x, conc ρ v = some x ∧ (binOp op 0 (.int k m) (.int k n)).run P w = .ok x w ∧ ∀ t, binOp op t (.int k m) (.int k n) = binOp op 0 (.int k m) (.int k n) := by
  cases op <;> simp [isShift] at hs <;> simp only [intBin] at h
  case quo =>
    cases hz : ieq n 0 <;> simp [hz] at h
    subst h
    have hz' : ¬ n = 0 := fun e => by rw [← ieq_iff, hz] at e; simp at e
    rw [mkI_eq, wrapF_eq]
    exact ⟨_, rfl, by simp [binOp, Op.intDiv, hz'], fun t => rfl⟩
  case rem =>
    cases hz : ieq n 0 <;> simp [hz] at h
    subst h
    have hz' : ¬ n = 0 := fun e => by rw [← ieq_iff, hz] at e; simp at e
    rw [mkI_eq]
    exact ⟨_, rfl, by simp [binOp, Op.intDiv, hz'], fun t => rfl⟩
  all_goals
    simp only [Option.some.injEq] at h
  all_goals
    subst h
    simp only [mkI_eq, wrapF_eq, ieq_eq, ilt_eq]
    refine ⟨_, rfl, ?_, fun t => rfl⟩
    simp [binOp, Op.intArith, Op.intBits, Op.intCmp]
  all_goals
    first
      | done
      | (rw [Bool.eq_iff_iff]; simp; try omega)
theorem shift_run {op : BinOp} {k k' : IntKind} {m n : Int} {v : CV} (h : shiftA op k m n = some v) (hs : isShift op = true) (t : TypeId) :
    ∃ x, conc ρ v = some x ∧ (binOp op t (.int k m) (.int k' n)).run P w = .ok x w := by
  unfold shiftA at h
  cases hz : ilt n 0 <;> simp [hz] at h
  rw [ilt_eq] at hz
  have hz' : ¬ n < 0 := by simpa using hz
  cases op <;> simp [isShift] at hs <;> simp only [Option.some.injEq] at h <;> subst h <;> simp only [mkI_eq, wrapF_eq]
  · exact ⟨_, rfl, by simp [binOp, Op.shift, hz']⟩
  · exact ⟨_, rfl, by simp [binOp, Op.shift, hz']⟩
end

/-! ### Texts -/
theorem conc_s {ρ : Env} {l : List Nat} {x : Value} (h : conc ρ (.s l) = some x) : (∀ m ∈ l, m < 256) ∧ x = .string (bs l) := by
  simp only [conc] at h
  split at h
  · rename_i hl
    simp only [Option.some.injEq] at h
    exact ⟨fun m hm => by simpa using List.all_eq_true.1 hl m hm, h.symm⟩
  · cases h
theorem conc_s_mk {ρ : Env} {l : List Nat} (h : ∀ m ∈ l, m < 256) : conc ρ (.s l) = some (.string (bs l)) := by
  simp only [conc]
  rw [if_pos]
  exact List.all_eq_true.2 fun m hm => by simpa using h m hm
theorem bs_toList (l : List Nat) : (bs l).toList = l.map UInt8.ofNat := by simp [bs]
theorem bs_size (l : List Nat) : (bs l).size = l.length := by simp [bs, ByteArray.size]
theorem bs_append (l m : List Nat) : bs l ++ bs m = bs (l ++ m) := by
  apply ByteArray.ext
  simp [bs, ByteArray.data_append]
theorem map_inj {l m : List Nat} (hl : ∀ x ∈ l, x < 256) (hm : ∀ x ∈ m, x < 256) : (l.map UInt8.ofNat == m.map UInt8.ofNat) = leq l m := by
  rw [Bool.eq_iff_iff, leq_iff, beq_iff_eq]
  constructor
  · intro h
    have h' := congrArg (List.map UInt8.toNat) h
    rw [List.map_map, List.map_map] at h'
    have e : ∀ l : List Nat, (∀ x ∈ l, x < 256) → l.map (UInt8.toNat ∘ UInt8.ofNat) = l := fun l hl => by
      conv => rhs; rw [← List.map_id l]
      exact List.map_congr_left fun x hx => by simp; exact hl x hx
    rw [e l hl, e m hm] at h'
    exact h'
  · rintro rfl; rfl
theorem less_eq : ∀ {l m : List Nat}, (∀ x ∈ l, x < 256) → (∀ x ∈ m, x < 256) → Op.bytesLess (l.map UInt8.ofNat) (m.map UInt8.ofNat) = llt l m
  | [], [], _, _ => rfl
  | [], _ :: _, _, _ => rfl
  | _ :: _, [], _, _ => rfl
  | a :: l, b :: m, hl, hm => by
    have ha := hl a (by simp)
    have hb := hm b (by simp)
    have ih := less_eq (l := l) (m := m) (fun x hx => hl x (by simp [hx])) (fun x hx => hm x (by simp [hx]))
    simp only [List.map_cons, Op.bytesLess, llt, ih]
    congr 1
    · rw [Bool.eq_iff_iff, blt_iff, decide_eq_true_iff, UInt8.lt_iff_toNat_lt]
      simp [Nat.mod_eq_of_lt ha, Nat.mod_eq_of_lt hb]
    · congr 1
      rw [Bool.eq_iff_iff, beqN_iff, beq_iff_eq, ← UInt8.toNat_inj]
      simp [Nat.mod_eq_of_lt ha, Nat.mod_eq_of_lt hb]
section
variable {P : Program} {ρ : Env} (w : World)
theorem strBin_run {op : BinOp} {l m : List Nat} {v : CV} (h : strBin op l m = some v) {X Y : Value} (hX : conc ρ (.s l) = some X) (hY : conc ρ (.s m) = some Y) (t : TypeId) :
    ∃ x, conc ρ v = some x ∧ (binOp op t X Y).run P w = .ok x w := by
  obtain ⟨hl, rfl⟩ := conc_s hX
  obtain ⟨hm, rfl⟩ := conc_s hY
  cases op <;> simp only [strBin] at h
  case add =>
    cases hb : Nat.blt (lenN l + lenN m) 1099511627776 <;> simp only [hb, cond_true, cond_false, Option.some.injEq, reduceCtorEq] at h
    subst h
    rw [blt_iff, lenN_eq, lenN_eq] at hb
    refine ⟨_, conc_s_mk fun x hx => ?_, ?_⟩
    · rcases List.mem_append.1 hx with h | h
      · exact hl x h
      · exact hm x h
    · have : ¬ ((bs l).size + (bs m).size : Nat) > IntKind.i64.max := by
        rw [bs_size, bs_size]; simp [IntKind.max, IntKind.signed, IntKind.bits]; omega
      simp only [binOp, Op.stringOp, this, if_false, bs_append]; rfl
  all_goals
    simp only [Option.some.injEq, reduceCtorEq] at h
  all_goals
    subst h
    refine ⟨_, rfl, ?_⟩
    simp only [binOp, Op.stringOp, bs_toList, map_inj hl hm, less_eq hl hm]
  all_goals rfl
theorem eqGuard_run (op : BinOp) (t : TypeId) (ox oy : Operand) {x y : Value} (h : ∀ z, x ≠ .agg z) (h' : x ≠ .nilIface) : (eqGuard op t ox oy x y).run P w = .ok () w := by
  unfold eqGuard
  cases op <;> simp
  all_goals
    cases x <;> first
      | exact absurd rfl h'
      | exact absurd rfl (h _)
      | rfl
end
end Go.Ce
