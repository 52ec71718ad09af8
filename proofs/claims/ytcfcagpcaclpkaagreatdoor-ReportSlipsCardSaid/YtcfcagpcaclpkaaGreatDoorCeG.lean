/-
  A CLOSED EVALUATOR FOR THE MODEL: aggregates, the built-in functions that only look; A QUIET OPERATION WHOLE. Conditions: none.
-/
import Derived.Test.YtcfcagpcaclpkaaGreatDoorCeF
namespace Go.Ce
open Go Go.RowKit

/-- Cells laid over others. -/
theorem laid_get (xs : List Value) (off : Nat) : ∀ (n : Nat) (cells : Array Value), off + n + xs.length ≤ cells.size → ∀ j,
    (((xs.zipIdx n).foldl (fun cs (x : Value × Nat) => cs.setIfInBounds (off + x.2) x.1) cells).size = cells.size) ∧
    ((xs.zipIdx n).foldl (fun cs (x : Value × Nat) => cs.setIfInBounds (off + x.2) x.1) cells)[j]? = if off + n ≤ j ∧ j < off + n + xs.length then xs[j - (off + n)]? else cells[j]? := by
  induction xs with
  | nil => intro n cells _ j; simp; omega
  | cons x xs ih =>
    intro n cells h j
    simp only [List.length_cons] at h
    simp only [List.zipIdx_cons, List.foldl_cons]
    obtain ⟨h1, h2⟩ := ih (n + 1) (cells.setIfInBounds (off + n) x) (by simp; omega) j
    refine ⟨by rw [h1]; simp, ?_⟩
    rw [h2]
    simp only [List.length_cons]
    by_cases hj : j = off + n
    · subst hj
      rw [if_neg (by omega), if_pos (by omega)]
      have hlt : off + n < cells.size := by omega
      simp [hlt]
    · by_cases hin : off + (n + 1) ≤ j ∧ j < off + (n + 1) + xs.length
      · rw [if_pos hin, if_pos (by omega)]
        obtain ⟨i, rfl⟩ : ∃ i, j = off + n + (i + 1) := ⟨j - off - n - 1, by omega⟩
        rw [show off + n + (i + 1) - (off + (n + 1)) = i by omega, show off + n + (i + 1) - (off + n) = i + 1 by omega]
        simp
      · rw [if_neg hin, if_neg (by omega)]
        simp only [Array.getElem?_setIfInBounds]
        rw [if_neg (by omega)]
theorem concL_laid {ρ : Env} {cs cs' vs : List CV} {xs : List Value} {cells : Array Value} {off : Nat} (hc : concL ρ cs = some cells.toList) (hv : concL ρ vs = some xs) (hs : setL cs off vs = some cs') (hne : vs ≠ []) :
    off + xs.length ≤ cells.size ∧ concL ρ cs' = some (xs.zipIdx.foldl (fun cs (x : Value × Nat) => cs.setIfInBounds (off + x.2) x.1) cells).toList := by
  obtain ⟨h1, h2, h3⟩ := setL_some hs
  have l1 := concL_len hc
  have l2 := concL_len hv
  have h4 := h2 hne
  have hb : off + xs.length ≤ cells.size := by rw [l2]; simp at l1; omega
  refine ⟨hb, concL_of ?_ fun j c hcj => ?_⟩
  · have := (laid_get xs off 0 cells (by omega) 0).1
    simp at this ⊢
    rw [this, h1]; simpa using l1
  · have hg := (laid_get xs off 0 cells (by omega) j).2
    rw [h3 j] at hcj
    simp only [Nat.add_zero] at hg
    simp only [Array.getElem?_toList]
    rw [hg]
    by_cases hin : off ≤ j ∧ j < off + vs.length
    · rw [if_pos hin] at hcj
      rw [if_pos (by omega)]
      exact concL_get hv _ _ hcj
    · rw [if_neg hin] at hcj
      rw [if_neg (by omega)]
      obtain ⟨x, e1, e2⟩ := concL_get hc _ _ hcj
      exact ⟨x, e1, by simpa using e2⟩
section
variable {P : Program} {w0 : World} {ρ : Env} {A : AW} {w : World} {fr : T CV} {a : Act}
theorem fillA_run {place : Nat → Option (Nat × Nat)} : ∀ {parts : List (Nat × Operand)} {cs cs' : List CV} {cells : Array Value}, fillA place fr cs parts = some cs' → concL ρ cs = some cells.toList →
    (∀ p ∈ parts, OK ρ fr a p.2) → ∃ out, Instr.fill place cells (parts.map fun (i, x) => (i, a.eval x)) = some out ∧ concL ρ cs' = some out.toList
  | [], cs, cs', cells, h, hc, _ => by
    simp only [fillA, Option.some.injEq] at h
    subst h
    exact ⟨cells, rfl, hc⟩
  | (i, x) :: rest, cs, cs', cells, h, hc, hok => by
    simp only [fillA] at h
    split at h
    · rename_i off size v hp hv
      obtain ⟨h1, h2⟩ := cond_some h
      obtain ⟨h1, h3⟩ := andT h1
      rw [beqN_iff, lenN_eq] at h1
      have hn0 := beqF h3
      split at h2
      · rename_i q hs
        have hx := hok (i, x) (by simp) v hv
        have hcc := conc_cells hx
        have hl := concL_len hcc
        have hne : v.cells ≠ [] := fun e => by rw [e] at h1; simp at h1; exact hn0 h1.symm
        obtain ⟨g1, g2⟩ := concL_laid hc hcc hs hne
        obtain ⟨out, e1, e2⟩ := fillA_run h2 g2 (fun p hp => hok p (by simp [hp]))
        refine ⟨out, ?_, e2⟩
        simp only [List.map_cons, Instr.fill, hp]
        have hsz : (a.eval x).cells.size = size := by simp at hl; omega
        rw [if_neg]
        · have : (Array.foldl (fun cs (x : Value × Nat) => cs.setIfInBounds (off + x.2) x.1) cells ((a.eval x).cells.zipIdx)) = ((a.eval x).cells.toList.zipIdx.foldl (fun cs (x : Value × Nat) => cs.setIfInBounds (off + x.2) x.1) cells) := by
            rw [← Array.foldl_toList]; simp
          rw [← this] at e1
          exact e1
        · simp [hsz]
          simp at g1
          omega
      · cases h2
    · cases h
theorem zeroA_run {t : TypeId} {z : CV} (h : zeroA P t = some z) : ∃ x, conc ρ z = some x ∧ ∀ w, (zeroValue t).run P w = .ok x w := by
  unfold zeroA at h
  cases hi : P.info? t with
  | none => simp [hi] at h
  | some i =>
    simp only [hi] at h
    cases hz : i.zero with
    | none => simp [hz] at h
    | some v =>
      simp only [hz] at h
      exact ⟨v, conc_ofV h, fun w => by simp [zeroValue, typeInfo, hi, hz]⟩
theorem placesOf_run : ∀ {fs : List Field} {pl : List (Nat × Nat)}, placesOf P fs = some pl → ∀ w,
    (fs.mapM fun f => (do pure (f.offset, ← sizeOf f.type) : Sem (Nat × Nat))).run P w = .ok pl w
  | [], pl, h, w => by simp [placesOf] at h; subst h; rfl
  | f :: fs, pl, h, w => by
    simp only [placesOf] at h
    cases hn : sizeP P f.type <;> cases hr : placesOf P fs <;> simp [hn, hr] at h
    subst h
    have ih := placesOf_run hr w
    simp only [List.mapM_cons, Sem.run_bind, sizeOf_run hn, Result.andThen_ok, Sem.run_pure, ih]
theorem buildA_run {t : TypeId} {parts : List (Nat × Operand)} {v : CV} (h : buildA P t fr parts = some v) (hok : ∀ p ∈ parts, OK ρ fr a p.2) :
    ∃ z, conc ρ v = some z ∧ (Instr.build t (parts.map fun (i, x) => (i, a.eval x)).toArray).run P w = .ok z w := by
  unfold buildA at h
  split at h
  · rename_i z fs hz hu
    obtain ⟨zx, e1, e2⟩ := zeroA_run (ρ := ρ) hz
    split at h
    · rename_i pl hpl
      split at h
      · rename_i cs hcs
        simp only [Option.some.injEq] at h
        subst h
        obtain ⟨out, g1, g2⟩ := fillA_run hcs (conc_cells e1) hok
        refine ⟨.agg out, by simp [conc, g2], ?_⟩
        have hpm := placesOf_run hpl w
        simp only [Instr.build, Sem.run_bind, e2, Result.andThen_ok, run_underlying hu]
        rw [Array.mapM_eq_mapM_toList]
        simp only [Sem.run_map, hpm, Result.andThen_ok]
        have hpe : (fun i => getN pl i) = (pl.toArray[·]?) := by funext i; rw [getN_eq]; simp
        rw [hpe] at g1
        simp only [g1, Sem.run_pure]
      · cases h
    · cases h
  · rename_i z n e hz hu
    obtain ⟨zx, e1, e2⟩ := zeroA_run (ρ := ρ) hz
    split at h
    · rename_i sz hsz
      split at h
      · rename_i cs hcs
        simp only [Option.some.injEq] at h
        subst h
        obtain ⟨out, g1, g2⟩ := fillA_run hcs (conc_cells e1) hok
        refine ⟨.agg out, by simp [conc, g2], ?_⟩
        simp only [Instr.build, Sem.run_bind, e2, Result.andThen_ok, run_underlying hu, sizeOf_run hsz, g1, Sem.run_pure]
      · cases h
    · cases h
  · cases h
theorem lenA_run {t : TypeId} {x v : CV} (h : lenA P t x = some v) {X : Value} (hX : conc ρ x = some X) (ty : TypeId) (tys : List TypeId) (rest : List Value) :
    ∃ z, conc ρ v = some z ∧ (Builtin.len_ (t :: tys).toArray ty (X :: rest).toArray).run P w = .ok z w := by
  unfold lenA at h
  split at h <;> simp only [Option.some.injEq, reduceCtorEq] at h <;> subst h <;> rename_i hu
  · rename_i l
    obtain ⟨_, rfl⟩ := conc_s hX
    rw [lenN_eq]
    refine ⟨_, rfl, ?_⟩
    simp [Builtin.len_, run_underlying hu, bs_size, goInt]
  · refine ⟨_, rfl, ?_⟩
    simp [Builtin.len_, run_underlying hu, goInt]
  · simp only [conc, Option.some.injEq] at hX
    subst hX
    refine ⟨_, rfl, ?_⟩
    simp [Builtin.len_, run_underlying hu, goInt]
  · obtain ⟨L, hL, hc, rfl⟩ := conc_sl hX
    refine ⟨_, rfl, ?_⟩
    simp [Builtin.len_, run_underlying hu, goInt]
  · obtain ⟨L, hL, hc, rfl⟩ := conc_se hX
    refine ⟨_, rfl, ?_⟩
    simp [Builtin.len_, run_underlying hu, goInt]
  · obtain ⟨L, hL, hc, rfl⟩ := conc_so hX
    refine ⟨_, rfl, ?_⟩
    simp [Builtin.len_, run_underlying hu, goInt]
theorem minA_run {x y v : CV} (h : minA x y = some v) {X Y : Value} (hX : conc ρ x = some X) (hY : conc ρ y = some Y) : ∃ z, conc ρ v = some z ∧ (Builtin.min2 X Y).run P w = .ok z w := by
  unfold minA at h
  split at h
  · simp only [Option.some.injEq] at h
    subst h
    simp only [conc, Option.some.injEq] at hX hY
    subst hX; subst hY
    rename_i k m k' n
    refine ⟨_, rfl, ?_⟩
    simp only [Builtin.min2, Sem.run_pure, ilt_eq]
    by_cases hlt : n < m <;> simp [hlt]
  · cases h
theorem maxA_run {x y v : CV} (h : maxA x y = some v) {X Y : Value} (hX : conc ρ x = some X) (hY : conc ρ y = some Y) : ∃ z, conc ρ v = some z ∧ (Builtin.max2 X Y).run P w = .ok z w := by
  unfold maxA at h
  split at h
  · simp only [Option.some.injEq] at h
    subst h
    simp only [conc, Option.some.injEq] at hX hY
    subst hX; subst hY
    rename_i k m k' n
    refine ⟨_, rfl, ?_⟩
    simp only [Builtin.max2, Sem.run_pure, ilt_eq]
    by_cases hlt : m < n <;> simp [hlt]
  · cases h
theorem foldA_run {f : CV → CV → Option CV} {g : Value → Value → Sem Value} (hfg : ∀ x y v X Y, f x y = some v → conc ρ x = some X → conc ρ y = some Y → ∃ z, conc ρ v = some z ∧ (g X Y).run P w = .ok z w) :
    ∀ {l : List Operand} {x v : CV} {X : Value}, foldA f fr x l = some v → conc ρ x = some X → (∀ o ∈ l, OK ρ fr a o) → ∃ z, conc ρ v = some z ∧ ((l.map a.eval).foldlM g X).run P w = .ok z w
  | [], x, v, X, h, hX, _ => by simp [foldA] at h; subst h; exact ⟨X, hX, rfl⟩
  | o :: l, x, v, X, h, hX, hok => by
    simp only [foldA] at h
    split at h
    · rename_i y hy
      split at h
      · rename_i q hq
        obtain ⟨z1, e1, e2⟩ := hfg x y q X _ hq hX (hok o (by simp) y hy)
        obtain ⟨z, g1, g2⟩ := foldA_run hfg h e1 (fun o ho => hok o (by simp [ho]))
        exact ⟨z, g1, by simp [e2, g2]⟩
      · cases h
    · cases h
end

section
variable {P : Program} {w0 : World} {ρ : Env} {A : AW} {w : World} {fr : T CV} {a : Act}
theorem usd_nil (tys : Array TypeId) (ty : TypeId) (n c : Nat) : Builtin.unsafeSliceData_ tys ty #[.slice none n c] = pure (.pointer none) := rfl
theorem usd_some (tys : Array TypeId) (ty : TypeId) (x : Addr) (n c : Nat) (h : c ≠ 0) : Builtin.unsafeSliceData_ tys ty #[.slice (some x) n c] = pure (.pointer (some x)) := if_pos h
theorem builtinQ_run {b : Builtin} {tys : List TypeId} {args : List Operand} {v : CV} (h : builtinQ P b tys fr args = some v) (hok : ∀ o ∈ args, OK ρ fr a o) :
    ∃ z, conc ρ v = some z ∧ ∀ ty cs, (builtin b tys.toArray ty cs (args.map a.eval).toArray).run P w = .ok (.value z) w := by
  unfold builtinQ at h
  split at h
  · rename_i t tys' x rest
    split at h
    · rename_i c hc
      have hx := hok x (by simp) c hc
      obtain ⟨z, e1, _⟩ := lenA_run (P := P) (w := w) h hx 0 tys' (rest.map a.eval)
      refine ⟨z, e1, fun ty cs => ?_⟩
      obtain ⟨z', e1', e2⟩ := lenA_run (P := P) (w := w) h hx ty tys' (rest.map a.eval)
      obtain rfl : z = z' := by rw [e1] at e1'; injection e1'
      simp only [builtin, List.map_cons, Sem.run_bind, e2, Result.andThen_ok, Sem.run_pure]
    · cases h
  · rename_i x l
    split at h
    · rename_i c hc
      obtain ⟨z, e1, e2⟩ := foldA_run (P := P) (w := w) (a := a) (fun x y v X Y h1 h2 h3 => minA_run h1 h2 h3) h (hok x (by simp) c hc) (fun o ho => hok o (by simp [ho]))
      refine ⟨z, e1, fun ty cs => ?_⟩
      simp only [builtin, List.map_cons, Builtin.min_, Sem.run_bind, e2, Result.andThen_ok, Sem.run_pure]
    · cases h
  · rename_i x l
    split at h
    · rename_i c hc
      obtain ⟨z, e1, e2⟩ := foldA_run (P := P) (w := w) (a := a) (fun x y v X Y h1 h2 h3 => maxA_run h1 h2 h3) h (hok x (by simp) c hc) (fun o ho => hok o (by simp [ho]))
      refine ⟨z, e1, fun ty cs => ?_⟩
      simp only [builtin, List.map_cons, Builtin.max_, Sem.run_bind, e2, Result.andThen_ok, Sem.run_pure]
    · cases h
  · rename_i x
    split at h
    · rename_i hc
      simp only [Option.some.injEq] at h
      subst h
      have := hok x (by simp) _ hc
      simp only [conc, Option.some.injEq] at this
      refine ⟨_, rfl, fun ty cs => ?_⟩
      simp only [builtin, List.map_cons, List.map_nil, ← this, usd_nil, Sem.run_bind, Sem.run_pure, Result.andThen_ok]
    · rename_i b n k hc
      obtain ⟨h1, h2⟩ := cond_some' h
      simp only [Option.some.injEq] at h2
      subst h2
      rw [Bool.or_eq_false_iff] at h1
      have hn : n ≠ 0 := fun e => by rw [← beqN_iff, h1.1] at e; cases e
      have hk : k = 0 := by
        have := h1.2
        cases hb : Nat.beq k 0 with
        | true => exact (beqN_iff _ _).1 hb
        | false => rw [hb] at this; cases this
      subst hk
      obtain ⟨L, hL, hcap, he⟩ := conc_sl (hok x (by simp) _ hc)
      refine ⟨.pointer (some ⟨L.blk, L.sh + 0, none⟩), by simp [conc, hL], fun ty cs => ?_⟩
      have hc0 : L.cap - 0 ≠ 0 := by omega
      simp only [builtin, List.map_cons, List.map_nil, he, usd_some _ _ _ _ _ hc0, Sem.run_bind, Sem.run_pure, Result.andThen_ok, Nat.zero_mul]
    · rename_i b o n c hc
      obtain ⟨h1, h2⟩ := cond_some' h
      simp only [Option.some.injEq] at h2
      subst h2
      have hn : c ≠ 0 := fun e => by rw [← beqN_iff, h1] at e; cases e
      obtain ⟨L, hL, hcap, he⟩ := conc_se (hok x (by simp) _ hc)
      refine ⟨.pointer (some ⟨L.blk, L.sh + o, none⟩), by simp [conc, hL], fun ty cs => ?_⟩
      simp only [builtin, List.map_cons, List.map_nil, he, usd_some _ _ _ _ _ hn, Sem.run_bind, Sem.run_pure, Result.andThen_ok]
    · cases h
  · cases h
/-- ████ A QUIET OPERATION: whatever the machine says that it yields, the model's own operation yields, in the world that it got. -/
theorem evQ_run (hw : WR w0 ρ A w) {o : Oper} {v : CV} (h : evQ P o.op fr A = some v) (hok : ∀ x ∈ o.op.operands, OK ρ fr a x) :
    ∃ z, conc ρ v = some z ∧ (execOp a.eval o).run P w = .ok (.value z) w := by
  obtain ⟨dst, op, ty, pos, after, guard⟩ := o
  simp only at h hok
  cases op <;> simp only [evQ, reduceCtorEq] at h <;> simp only [Op.operands] at hok
  case move x => exact ⟨_, hok x (by simp) v h, rfl⟩
  case assign x => exact ⟨_, hok x (by simp) v h, rfl⟩
  case pick c x y =>
    split at h
    · rename_i t hc
      have h1 := hok c (by simp) _ hc
      simp only [conc, Option.some.injEq] at h1
      cases t with
      | true => exact ⟨_, hok x (by simp) v h, by simp [execOp, ← h1, asBool]⟩
      | false => exact ⟨_, hok y (by simp) v h, by simp [execOp, ← h1, asBool]⟩
    · cases h
  case load t x =>
    split at h
    · rename_i b off hx
      obtain ⟨L, hL, he⟩ := conc_p (hok x (by simp) _ hx)
      obtain ⟨z, e1, e2⟩ := load_run (P := P) hw h hL
      exact ⟨z, e1, by simp [execOp, Instr.loadAt, he, Instr.sureAddr, e2]⟩
    · cases h
  case nilCheck x =>
    split at h
    · rename_i b off hx
      simp only [Option.some.injEq] at h
      subst h
      have h1 := hok x (by simp) _ hx
      obtain ⟨L, hL, he⟩ := conc_p h1
      exact ⟨_, h1, by simp [execOp, he]⟩
    · cases h
  case binOp op t x y yt =>
    split at h
    · rename_i c d hc hd
      obtain ⟨z, e1, e2, e3⟩ := binA_run (P := P) (w := w) h (hok x (by simp) _ hc) (hok y (by simp) _ hd) x y
      exact ⟨z, e1, by simp [execOp, e2, e3]⟩
    · cases h
  case unOp op t x =>
    split at h
    · rename_i c hc
      obtain ⟨z, e1, e2⟩ := unA_run (P := P) (w := w) h (hok x (by simp) _ hc)
      exact ⟨z, e1, by simp [execOp, e2]⟩
    · cases h
  case convert s d x =>
    split at h
    · rename_i c hc
      obtain ⟨z, e1, e2⟩ := convA_run (P := P) hw h (hok x (by simp) _ hc)
      exact ⟨z, e1, by simp [execOp, e2]⟩
    · cases h
  case slice t x lo hi mx =>
    split at h
    · rename_i c hc
      obtain ⟨z, e1, e2⟩ := sliceA_run (P := P) (a := a) hw h (hok x (by simp) _ hc) (fun o ho => hok o (by subst ho; simp)) (fun o ho => hok o (by subst ho; simp)) (fun o ho => hok o (by subst ho; simp))
      exact ⟨z, e1, by simp [execOp, e2]⟩
    · cases h
  case fieldAddr s x f =>
    split at h
    · rename_i c hc
      obtain ⟨z, e1, e2⟩ := fieldAddrA_run (w := w) h (hok x (by simp) _ hc)
      exact ⟨z, e1, by simp [execOp, e2]⟩
    · cases h
  case field t x f =>
    split at h
    · rename_i c hc
      obtain ⟨z, e1, e2⟩ := fieldA_run (w := w) h (hok x (by simp) _ hc)
      exact ⟨z, e1, by simp [execOp, e2]⟩
    · cases h
  case indexAddr t x ix =>
    split at h
    · rename_i c d hc hd
      obtain ⟨z, e1, e2⟩ := indexAddrA_run (P := P) hw h (hok x (by simp) _ hc) (hok ix (by simp) _ hd)
      exact ⟨z, e1, by simp [execOp, e2]⟩
    · cases h
  case index t x ix =>
    split at h
    · rename_i c d hc hd
      obtain ⟨z, e1, e2⟩ := indexA_run (P := P) (w := w) h (hok x (by simp) _ hc) (hok ix (by simp) _ hd)
      exact ⟨z, e1, by simp [execOp, e2]⟩
    · cases h
  case extract x i =>
    split at h
    · rename_i vs hx
      have h1 := hok x (by simp) _ hx
      simp only [conc] at h1
      cases hl : concL ρ vs with
      | none => simp [hl] at h1
      | some xs =>
        simp only [hl, Option.some.injEq] at h1
        rw [getN_eq] at h
        obtain ⟨z, e1, e2⟩ := concL_get hl _ _ h
        exact ⟨z, e1, by simp [execOp, Instr.extract, ← h1, e2]⟩
    · cases h
  case build t parts =>
    obtain ⟨z, e1, e2⟩ := buildA_run (P := P) (w := w) (a := a) h (fun p hp => hok p.2 (by simp; exact ⟨p.1, by simpa using hp⟩))
    refine ⟨z, e1, ?_⟩
    simp only [execOp, Sem.run_bind]
    have : (parts.map fun (i, x) => (i, a.eval x)) = (parts.toList.map fun (i, x) => (i, a.eval x)).toArray := by
      rw [← Array.toList_map]
    rw [this, e2]; rfl
  case call c =>
    split at h
    · rename_i b hb
      obtain ⟨z, e1, e2⟩ := builtinQ_run (P := P) (w := w) (a := a) h (fun o ho => hok o (by simp [Call.operands, hb] at ho ⊢; exact ho))
      refine ⟨z, e1, ?_⟩
      simp only [execOp, resolve, hb, Sem.run_bind, Sem.run_pure, Result.andThen_ok, invoke]
      have : (c.args.toList.map a.eval).toArray = c.args.map a.eval := by rw [← Array.toList_map]
      rw [this] at e2
      exact e2 _ _
    · cases h
end
end Go.Ce
