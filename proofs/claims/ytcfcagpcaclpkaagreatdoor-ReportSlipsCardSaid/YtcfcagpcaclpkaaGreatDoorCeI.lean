/-
  A CLOSED EVALUATOR FOR THE MODEL: operations that make a block; stores and marks. Conditions: none.
-/
import Derived.Test.YtcfcagpcaclpkaaGreatDoorCeH
namespace Go.Ce
open Go Go.RowKit

theorem concL_flat {ρ : Env} {z : List CV} {xs : List Value} (h : concL ρ z = some xs) : ∀ n, concL ρ (repA z n) = some ((List.replicate n xs).flatten)
  | 0 => rfl
  | n + 1 => by
    have := concL_append h (concL_flat h n)
    rw [List.replicate_succ, List.flatten_cons]
    exact this
theorem range_rep (z : Array Value) : ∀ n, ((List.range (n * z.size)).map fun i => z[i % z.size]!) = (List.replicate n z.toList).flatten
  | 0 => by simp
  | n + 1 => by
    by_cases hz : z.size = 0
    · have : z = #[] := by simpa using hz
      subst this; simp
    · rw [Nat.succ_mul, Nat.add_comm, List.range_add, List.map_append, List.replicate_succ, List.flatten_cons, ← range_rep z n]
      congr 1
      · apply List.ext_getElem?
        intro j
        by_cases hj : j < z.size
        · simp [hj, Nat.mod_eq_of_lt hj]
        · simp [hj]
      · rw [List.map_map]
        apply List.map_congr_left
        intro i _
        simp
section
variable {P : Program} {w0 : World} {ρ : Env} {A : AW} {w : World} {fr : T CV} {a : Act}
theorem zerosA_run {t : TypeId} {n size : Nat} {z : List CV} (h : zerosA P t n size = some z) :
    ∃ zr : Array Value, (n * size = 0 → zr = #[]) ∧ (n * size ≠ 0 → ∃ x : Value, x.cells = zr ∧ ∀ w, (zeroValue t).run P w = .ok x w) ∧
      concL ρ z = some ((Array.range (n * size)).map fun i => zr[i % zr.size]!).toList := by
  unfold zerosA at h
  cases hz : Nat.beq (n * size) 0 with
  | true =>
    rw [hz] at h
    simp only [cond_true, Option.some.injEq] at h
    subst h
    have h0 := (beqN_iff _ _).1 hz
    exact ⟨#[], fun _ => rfl, fun h => absurd h0 h, by rw [h0]; simp [concL]⟩
  | false =>
    rw [hz] at h
    simp only [cond_false] at h
    have h0 : ¬ n * size = 0 := fun e => by rw [← beqN_iff, hz] at e; cases e
    split at h
    · rename_i c hc
      obtain ⟨x, e1, e2⟩ := zeroA_run (ρ := ρ) hc
      obtain ⟨h1, h2⟩ := cond_some h
      simp only [Option.some.injEq] at h2
      subst h2
      rw [beqN_iff, lenN_eq] at h1
      have hcc := conc_cells e1
      have hl := concL_len hcc
      refine ⟨x.cells, fun h => absurd h h0, fun _ => ⟨x, rfl, e2⟩, ?_⟩
      rw [concL_flat hcc n, ← range_rep]
      have : x.cells.size = size := by simp at hl; omega
      rw [this, Array.toList_map, Array.toList_range]
    · cases h
/-- ████ AN OPERATION THAT MAKES A BLOCK OUT OF ITS OPERANDS. -/
theorem evAl_run {o : Oper} {ob : AObj} {mk : Nat → CV} (h : evAl P o.op fr = some (ob, mk)) (hok : ∀ x ∈ o.op.operands, OK ρ fr a x) :
    ∃ (C : Array Value) (X : Nat → Value), (∀ w, (execOp a.eval o).run P w = .ok (.value (X w.heap.size)) (w.alloc (.cells C ob.el))) ∧ concL ρ ob.cells = some C.toList ∧ ob.esz = 0 ∧ ob.fz = 0 ∧ ob.fb = false ∧
      ∀ n m (ρ' : Env), ρ' n = some ⟨m, 0, 0, 0⟩ → conc ρ' (mk n) = some (X m) := by
  obtain ⟨dst, op, ty, pos, after, guard⟩ := o
  simp only at h hok
  cases op <;> simp only [evAl, reduceCtorEq] at h <;> simp only [Op.operands] at hok
  case alloc e =>
    split at h
    · rename_i z hz
      simp only [Option.some.injEq, Prod.mk.injEq] at h
      obtain ⟨rfl, rfl⟩ := h
      obtain ⟨x, e1, e2⟩ := zeroA_run (ρ := ρ) hz
      refine ⟨x.cells, fun m => .pointer (some ⟨m, 0, none⟩), fun w => ?_, conc_cells e1, rfl, rfl, rfl, fun n m ρ' hn => by simp [conc, hn]⟩
      simp [execOp, Instr.alloc, e2, newVar, newRow]
    · cases h
  case box e x =>
    split at h
    · rename_i v hv
      simp only [Option.some.injEq, Prod.mk.injEq] at h
      obtain ⟨rfl, rfl⟩ := h
      have e1 := hok x (by simp) v hv
      refine ⟨(a.eval x).cells, fun m => .pointer (some ⟨m, 0, none⟩), fun w => ?_, conc_cells e1, rfl, rfl, rfl, fun n m ρ' hn => by simp [conc, hn]⟩
      simp [execOp, Instr.box, newVar, newRow]
    · cases h
  case buildSlice t len parts =>
    split at h
    · rename_i e hu
      split at h
      · rename_i sz hsz
        obtain ⟨hlt, h⟩ := cond_some h
        rw [blt_iff] at hlt
        split at h
        · rename_i z hz
          split at h
          · rename_i cs hcs
            simp only [Option.some.injEq, Prod.mk.injEq] at h
            obtain ⟨rfl, rfl⟩ := h
            obtain ⟨zr, ez, e1, e2⟩ := zerosA_run (ρ := ρ) hz
            obtain ⟨out, g1, g2⟩ := fillA_run hcs e2 (fun p hp => hok p.2 (by simp; exact ⟨p.1, by simpa using hp⟩))
            refine ⟨out, fun m => .slice (some ⟨m, 0, none⟩) len len, fun w => ?_, g2, rfl, rfl, rfl, fun n m ρ' hn => by simp [conc, hn]⟩
            have hp : (parts.map fun (i, x) => (i, a.eval x)).toList = (parts.toList.map fun (i, x) => (i, a.eval x)) := Array.toList_map
            have hbig : ¬ len * sz > 2 ^ 24 := by omega
            by_cases h0 : len * sz = 0
            · obtain rfl := ez h0
              rw [← hp] at g1
              simp [execOp, Instr.buildSlice, run_underlying hu, sizeOf_run hsz, h0, newRow] at g1 ⊢
              simp [g1]
            · obtain ⟨x, rfl, ex⟩ := e1 h0
              rw [← hp] at g1
              simp [execOp, Instr.buildSlice, run_underlying hu, sizeOf_run hsz, h0, hbig, newRow, ex] at g1 ⊢
              simp [g1]
          · cases h
        · cases h
      · cases h
    · cases h
  case makeSlice t l c =>
    split at h
    · rename_i e lv cv hu hl hc
      split at h
      · rename_i l' c' i hl' hc' hi
        obtain ⟨hlt, h⟩ := cond_some h
        obtain ⟨hlt, h4⟩ := andT hlt
        obtain ⟨hlt, h3⟩ := andT hlt
        obtain ⟨h1, h2⟩ := andT hlt
        have h1 := Nat.le_of_ble_eq_true h1
        rw [blt_iff] at h2 h3 h4
        split at h
        · rename_i z hz
          simp only [Option.some.injEq, Prod.mk.injEq] at h
          obtain ⟨rfl, rfl⟩ := h
          obtain ⟨zr, ez, e1, e2⟩ := zerosA_run (ρ := ρ) hz
          obtain ⟨k1, he1, _⟩ := idx_run (P := P) hl' (hok l (by simp) _ hl)
          obtain ⟨k2, he2, _⟩ := idx_run (P := P) hc' (hok c (by simp) _ hc)
          refine ⟨(Array.range (c' * i.size)).map fun j => zr[j % zr.size]!, fun m => .slice (some ⟨m, 0, none⟩) l' c', fun w => ?_, e2, rfl, rfl, rfl, fun n m ρ' hn => by simp [conc, hn]; omega⟩
          have hsz : sizeP P e = some i.size := by simp [sizeP, hi]
          have w1 : IntKind.i64.wrap (l' : Int) = (l' : Int) := wrap_nat .i64 l' (by simp [lim]; omega)
          have w2 : IntKind.i64.wrap (c' : Int) = (c' : Int) := wrap_nat .i64 c' (by simp [lim]; omega)
          have hbe : (i.bytes : Int) * (c' : Int) = ((c' * i.bytes : Nat) : Int) := by rw [Nat.mul_comm]; simp
          have hno : ¬ ((((c' : Int) < 0 ∨ 281474976710656 < (i.bytes : Int) * (c' : Int)) ∨ (l' : Int) < 0) ∨ c' < l') := by
            rw [hbe]
            omega
          by_cases h0 : c' * i.size = 0
          · obtain rfl := ez h0
            simp [execOp, Instr.makeSlice, he1, he2, asInt, asIntOf, run_underlying hu, typeInfo, hi, w1, w2, sizeOf_run hsz, h0, newRow]
            exact fun hh => absurd hh hno
          · obtain ⟨x, rfl, ex⟩ := e1 h0
            simp [execOp, Instr.makeSlice, he1, he2, asInt, asIntOf, run_underlying hu, typeInfo, hi, w1, w2, sizeOf_run hsz, h0, newRow, ex]
            exact fun hh => absurd hh hno
        · cases h
      · cases h
    · cases h
end
end Go.Ce
