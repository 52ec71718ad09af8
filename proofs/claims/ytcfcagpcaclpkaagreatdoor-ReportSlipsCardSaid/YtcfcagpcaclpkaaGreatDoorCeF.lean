/-
  A CLOSED EVALUATOR FOR THE MODEL: places, parts, slices, aggregates; a quiet operation whole. Conditions: none.
-/
import Derived.Test.YtcfcagpcaclpkaaGreatDoorCeE
namespace Go.Ce
open Go Go.RowKit

theorem beqF {a b : Nat} (h : (!Nat.beq a b) = true) : a ≠ b := fun e => by rw [← beqN_iff] at e; rw [e] at h; cases h
section
variable {P : Program} {w0 : World} {ρ : Env} {A : AW} {w : World} {fr : T CV} {a : Act}
theorem indexAddrA_run (hw : WR w0 ρ A w) {t : TypeId} {x ix v : CV} (h : indexAddrA P A t x ix = some v) {X I : Value} (hX : conc ρ x = some X) (hI : conc ρ ix = some I) :
    ∃ z, conc ρ v = some z ∧ (Instr.indexAt t X I).run P w = .ok z w := by
  unfold indexAddrA at h
  split at h
  · rename_i j e hj hu
    obtain ⟨k, rfl, hk⟩ := idx_run (P := P) hj hI
    split at h
    · rename_i sz b n kk hsz
      split at h
      · rename_i ob hb
        obtain ⟨h1, h2⟩ := cond_some h
        simp only [Option.some.injEq] at h2
        subst h2
        obtain ⟨h1, h3⟩ := andT h1
        rw [beqN_iff] at h1
        rw [blt_iff] at h3
        obtain ⟨L, hL, hc, rfl⟩ := conc_sl hX
        obtain ⟨C, f, hB⟩ := hw.blk b ob L hb hL
        refine ⟨.pointer (some ⟨L.blk, L.sh + (kk + j) * sz, none⟩), by simp [conc, hL], ?_⟩
        have hlt : (j : Int) < (n : Int) := by omega
        have h0 : (0 : Int) ≤ (j : Int) := by omega
        simp only [Instr.indexAt, Sem.run_bind, hk, run_underlying hu, Result.andThen_ok, Sem.run_pure, h0, hlt, true_and, if_true, sizeOf_run hsz, Int.toNat_natCast, Addr.add_lit]
        rw [hB.esz, h1, Nat.add_assoc, ← Nat.add_mul]
      · cases h
    · rename_i sz b o n c hsz
      obtain ⟨h3, h2⟩ := cond_some h
      simp only [Option.some.injEq] at h2
      subst h2
      rw [blt_iff] at h3
      obtain ⟨L, hL, hc, rfl⟩ := conc_se hX
      refine ⟨.pointer (some ⟨L.blk, L.sh + (o + j * sz), none⟩), by simp [conc, hL], ?_⟩
      have hlt : (j : Int) < (n : Int) := by omega
      have h0 : (0 : Int) ≤ (j : Int) := by omega
      simp only [Instr.indexAt, Sem.run_bind, hk, run_underlying hu, Result.andThen_ok, Sem.run_pure, h0, hlt, true_and, if_true, sizeOf_run hsz, Int.toNat_natCast, Addr.add_lit]
      rw [Nat.add_assoc]
    · cases h
  · rename_i j n e hj hu
    obtain ⟨k, rfl, hk⟩ := idx_run (P := P) hj hI
    split at h
    · rename_i sz b o hsz
      obtain ⟨h3, h2⟩ := cond_some h
      simp only [Option.some.injEq] at h2
      subst h2
      rw [blt_iff] at h3
      obtain ⟨L, hL, rfl⟩ := conc_p hX
      refine ⟨.pointer (some ⟨L.blk, L.sh + (o + j * sz), none⟩), by simp [conc, hL], ?_⟩
      have hlt : (j : Int) < (n : Int) := by omega
      have h0 : (0 : Int) ≤ (j : Int) := by omega
      simp only [Instr.indexAt, Sem.run_bind, hk, run_underlying hu, Result.andThen_ok, Sem.run_pure, Instr.sureAddr, h0, hlt, true_and, if_true, sizeOf_run hsz, Int.toNat_natCast, Addr.add_lit]
      rw [Nat.add_assoc]
    · cases h
  · cases h
theorem bs_get (l : List Nat) (j : Nat) (m : Nat) (h : l[j]? = some m) : (bs l)[j]? = some (UInt8.ofNat m) := by
  have hj := (List.getElem?_eq_some_iff.1 h).1
  have hj' : j < (bs l).size := by rw [bs_size]; exact hj
  rw [getElem?_pos (bs l) j hj']
  congr 1
  have e := (List.getElem?_eq_some_iff.1 h).2
  show (bs l).data[j] = _
  simp [bs, e]
theorem indexA_run {t : TypeId} {x ix v : CV} (h : indexA P t x ix = some v) {X I : Value} (hX : conc ρ x = some X) (hI : conc ρ ix = some I) :
    ∃ z, conc ρ v = some z ∧ (Instr.index t X I).run P w = .ok z w := by
  unfold indexA at h
  split at h
  · rename_i j n e cs hj hu
    obtain ⟨k, rfl, hk⟩ := idx_run (P := P) hj hI
    split at h
    · rename_i sz hsz
      obtain ⟨h3, h2⟩ := cond_some h
      rw [blt_iff] at h3
      have hc := conc_cells hX
      simp only [conc] at hX
      cases hl : concL ρ cs with
      | none => simp [hl] at hX
      | some xs =>
        simp only [hl, Option.some.injEq] at hX
        subst hX
        obtain ⟨z, e1, e2⟩ := part_run (P := P) h2 hl w
        refine ⟨z, e1, ?_⟩
        have hlt : (j : Int) < (n : Int) := by omega
        have h0 : (0 : Int) ≤ (j : Int) := by omega
        simp only [Instr.index, Sem.run_bind, hk, run_underlying hu, Result.andThen_ok, h0, hlt, true_and, if_true, sizeOf_run hsz, Int.toNat_natCast]
        exact e2
    · cases h
  · rename_i j l hj hu
    obtain ⟨k, rfl, hk⟩ := idx_run (P := P) hj hI
    obtain ⟨hl, rfl⟩ := conc_s hX
    rw [getN_eq] at h
    cases hg : l[j]? with
    | none => simp [hg] at h
    | some m =>
      simp only [hg, Option.some.injEq] at h
      subst h
      have hm := hl m (List.mem_of_getElem? hg)
      refine ⟨_, rfl, ?_⟩
      have h0 : (0 : Int) ≤ (j : Int) := by omega
      simp only [Instr.index, Sem.run_bind, hk, run_underlying hu, Result.andThen_ok, h0, if_true, Int.toNat_natCast, bs_get l j m hg, Sem.run_pure]
      congr 2
      simp
      omega
  · cases h
theorem fieldAddrA_run {s : TypeId} {x v : CV} {f : Nat} (h : fieldAddrA P s x f = some v) {X : Value} (hX : conc ρ x = some X) :
    ∃ z, conc ρ v = some z ∧ (Instr.fieldAt s X f).run P w = .ok z w := by
  unfold fieldAddrA at h
  split at h
  · rename_i fs b o hu
    cases hf : fs[f]? with
    | none => simp [hf] at h
    | some fd =>
      simp only [hf] at h
      cases hn : sizeP P fd.type with
      | none => simp [hn] at h
      | some n =>
        simp only [hn, forceNat_eq] at h
        obtain ⟨h1, h2⟩ := cond_some' h
        simp only [Option.some.injEq] at h2
        subst h2
        have hn0 : n ≠ 0 := fun e => by rw [← beqN_iff, h1] at e; cases e
        obtain ⟨L, hL, rfl⟩ := conc_p hX
        refine ⟨.pointer (some ⟨L.blk, L.sh + (o + fd.offset), none⟩), by simp [conc, hL], ?_⟩
        simp only [Instr.fieldAt, Sem.run_bind, run_underlying hu, Result.andThen_ok, hf, Instr.sureAddr, Sem.run_pure, fieldPlace, sizeOf_run hn, hn0, if_false, Addr.add_lit]
        rw [Nat.add_assoc]
  · cases h
theorem fieldA_run {t : TypeId} {x v : CV} {f : Nat} (h : fieldA P t x f = some v) {X : Value} (hX : conc ρ x = some X) :
    ∃ z, conc ρ v = some z ∧ (Instr.field t X f).run P w = .ok z w := by
  unfold fieldA at h
  split at h
  · rename_i fs cs hu
    cases hf : fs[f]? with
    | none => simp [hf] at h
    | some fd =>
      simp only [hf] at h
      simp only [conc] at hX
      cases hl : concL ρ cs with
      | none => simp [hl] at hX
      | some xs =>
        simp only [hl, Option.some.injEq] at hX
        subst hX
        obtain ⟨z, e1, e2⟩ := part_run (P := P) h hl w
        refine ⟨z, e1, ?_⟩
        simp only [Instr.field, Sem.run_bind, run_underlying hu, Result.andThen_ok, hf, asAgg, Sem.run_pure]
        exact e2
  · cases h
/-! ### Slices -/
theorem bound_run {x : Option Operand} {d m : Nat} (h : boundA fr x d = some m) (hok : ∀ o, x = some o → OK ρ fr a o) :
    (x = none ∧ m = d) ∨ ∃ o k, x = some o ∧ a.eval o = .int k (m : Int) := by
  unfold boundA at h
  cases x with
  | none => simp at h; exact .inl ⟨rfl, h.symm⟩
  | some o =>
    simp only at h
    cases ho : opVal fr o with
    | none => simp [ho] at h
    | some v =>
      simp only [ho] at h
      obtain ⟨k, rfl⟩ := idxOf_some h
      have := hok o rfl _ ho
      simp only [conc, Option.some.injEq] at this
      exact .inr ⟨o, k, rfl, this.symm⟩
theorem sb_one (k : IntKind) (m y : Nat) (c : BoundsCode) (h : m ≤ y) : (Instr.sliceBound (.int k (m : Int)) y c).run P w = .ok m w := by
  have h1 : (0 : Int) ≤ (m : Int) ∧ (m : Int) ≤ (y : Int) := by omega
  simp only [Instr.sliceBound, asIntOf, Sem.run_bind, Sem.run_pure, Result.andThen_ok, h1, and_self, if_true, Int.toNat_natCast]
theorem sb_run {lo hi : Option Operand} {l hh len cap : Nat} (b : Bool) (h1 : (lo = none ∧ l = 0) ∨ ∃ o k, lo = some o ∧ a.eval o = .int k (l : Int)) (h2 : (hi = none ∧ hh = len) ∨ ∃ o k, hi = some o ∧ a.eval o = .int k (hh : Int)) (h3 : l ≤ hh) (h4 : hh ≤ cap) :
    (Instr.sliceBounds b len cap (lo.map a.eval) (hi.map a.eval) none).run P w = .ok (l, hh, cap) w := by
  unfold Instr.sliceBounds
  rcases h2 with ⟨rfl, rfl⟩ | ⟨o2, k2, rfl, e2⟩ <;> rcases h1 with ⟨rfl, rfl⟩ | ⟨o1, k1, rfl, e1⟩ <;>
    simp [*, sb_one]
theorem sb_run3 {lo : Option Operand} {hi mx : Operand} {l hh m len cap : Nat} (b : Bool) (h1 : (lo = none ∧ l = 0) ∨ ∃ o k, lo = some o ∧ a.eval o = .int k (l : Int)) (h2 : ∃ k, a.eval hi = .int k (hh : Int)) (h5 : ∃ k, a.eval mx = .int k (m : Int)) (h3 : l ≤ hh) (h4 : hh ≤ m) (h6 : m ≤ cap) :
    (Instr.sliceBounds b len cap (lo.map a.eval) (some (a.eval hi)) (some (a.eval mx))).run P w = .ok (l, hh, m) w := by
  unfold Instr.sliceBounds
  obtain ⟨k2, e2⟩ := h2
  obtain ⟨k5, e5⟩ := h5
  rcases h1 with ⟨rfl, rfl⟩ | ⟨o1, k1, rfl, e1⟩ <;>
    simp [*, sb_one]
theorem sliceA_run (hw : WR w0 ρ A w) {t : TypeId} {x v : CV} {lo hi mx : Option Operand} (h : sliceA P A t x fr lo hi mx = some v) {X : Value} (hX : conc ρ x = some X)
    (hl : ∀ o, lo = some o → OK ρ fr a o) (hh : ∀ o, hi = some o → OK ρ fr a o) (hm : ∀ o, mx = some o → OK ρ fr a o) :
    ∃ z, conc ρ v = some z ∧ (Instr.sliceAt t X (lo.map a.eval) (hi.map a.eval) (mx.map a.eval)).run P w = .ok z w := by
  unfold sliceA at h
  split at h
  · rename_i l hu
    split at h
    · rename_i lo' hi' h1 h2
      have b1 := bound_run h1 hl
      have b2 := bound_run h2 hh
      obtain ⟨h3, h4⟩ := cond_some h
      obtain ⟨h3, h5⟩ := andT h3
      have h3 := Nat.le_of_ble_eq_true h3
      have h5 := Nat.le_of_ble_eq_true h5
      split at h4
      · rename_i m hs
        simp only [Option.some.injEq] at h4
        subst h4
        obtain ⟨hl', rfl⟩ := conc_s hX
        rw [lenN_eq] at h5 b2
        obtain ⟨e1, e2⟩ := cutN_some hs
        rw [dropN_eq] at e1
        subst e1
        refine ⟨_, conc_s_mk fun y hy => hl' y (List.mem_of_mem_drop (List.mem_of_mem_take hy)), ?_⟩
        have := sb_run (P := P) (w := w) (cap := l.length) false b1 b2 h3 h5
        simp only [Instr.sliceAt, Instr.slice, Sem.run_bind, run_underlying hu, Result.andThen_ok, Option.map_none, Option.isSome_none, Bool.false_eq_true, if_false, Sem.run_pure, bs_size, this]
        congr 2
        unfold bs
        rw [ByteArray.extract_mk]
        simp
      · cases h4
    · cases h
  · rename_i e hu
    split at h
    · rename_i lo' hi' sz h1 h2 hsz
      have b1 := bound_run h1 hl
      have b2 := bound_run h2 hh
      obtain ⟨h3, h4⟩ := cond_some h
      obtain ⟨h3, h5⟩ := andT h3
      rw [beqN_iff] at h3 h5
      subst h3; subst h5
      simp only [Option.some.injEq] at h4
      subst h4
      simp only [conc, Option.some.injEq] at hX
      subst hX
      refine ⟨_, rfl, ?_⟩
      have := sb_run (P := P) (w := w) (cap := 0) true b1 b2 (Nat.le_refl _) (Nat.le_refl _)
      simp [Instr.sliceAt, Instr.slice, run_underlying hu, this, sizeOf_run hsz]
    · cases h
  · rename_i e b n k hu
    split at h
    · rename_i lo' hi' ob sz h1 h2 hb hsz
      have b1 := bound_run h1 hl
      have b2 := bound_run h2 hh
      obtain ⟨h3, h4⟩ := cond_some h
      obtain ⟨h3, h8⟩ := andT h3
      obtain ⟨h3, h5⟩ := andT h3
      have h3 := Nat.le_of_ble_eq_true h3
      have h5 := Nat.le_of_ble_eq_true h5
      rw [beqN_iff] at h8
      obtain ⟨L, hL, hc, rfl⟩ := conc_sl hX
      cases h7 : (Nat.beq lo' 0 || Nat.blt lo' n) with
      | false =>
        rw [h7] at h4
        simp only [cond_false, Option.some.injEq] at h4
        subst h4
        rw [Bool.or_eq_false_iff] at h7
        have hlo : lo' = n := by
          have h9 : ¬ lo' < n := fun e => by rw [← blt_iff, h7.2] at e; cases e
          omega
        have hlo0 : lo' ≠ 0 := fun e => by rw [← beqN_iff, h7.1] at e; cases e
        obtain ⟨C, f, hB⟩ := hw.blk b ob L hb hL
        have hez : L.esz = sz := by rw [hB.esz, h8]
        refine ⟨.slice (some ⟨L.blk, L.sh + (if k + lo' = L.cap then k else k + lo') * L.esz, none⟩) 0 (L.cap - (k + lo')), ?_, ?_⟩
        · simp only [conc, hL]; rw [if_pos (by omega)]
        · have := sb_run (P := P) (w := w) (cap := L.cap - k) true b1 b2 h3 (by omega)
          simp only [Instr.sliceAt, Instr.slice, Sem.run_bind, run_underlying hu, Result.andThen_ok, Option.map_none, this, sizeOf_run hsz, Sem.run_pure]
          have hadd : (if L.cap - k = lo' then (some ⟨L.blk, L.sh + k * L.esz, none⟩ : Option Addr) else (some ⟨L.blk, L.sh + k * L.esz, none⟩ : Option Addr).map fun x => x.add (lo' * sz)) = some ⟨L.blk, L.sh + (if k + lo' = L.cap then k else k + lo') * L.esz, none⟩ := by
            by_cases h0 : L.cap - k = lo'
            · rw [if_pos h0, if_pos (by omega)]
            · rw [if_neg h0, if_neg (by omega)]
              simp only [Option.map_some, Addr.add_lit, hez, Nat.add_mul, Nat.add_assoc]
          rw [hadd, Nat.sub_sub, show hi' - lo' = 0 by omega]
      | true =>
      rw [h7] at h4
      simp only [cond_true, Option.some.injEq] at h4
      subst h4
      obtain ⟨C, f, hB⟩ := hw.blk b ob L hb hL
      have hez : L.esz = sz := by rw [hB.esz, h8]
      refine ⟨.slice (some ⟨L.blk, L.sh + (k + lo') * L.esz, none⟩) (hi' - lo') (L.cap - (k + lo')), ?_, ?_⟩
      · simp only [conc, hL]; rw [if_pos (by omega)]
      · have := sb_run (P := P) (w := w) (cap := L.cap - k) true b1 b2 h3 (by omega)
        simp only [Instr.sliceAt, Instr.slice, Sem.run_bind, run_underlying hu, Result.andThen_ok, Option.map_none, this, sizeOf_run hsz, Sem.run_pure]
        have hadd : (if L.cap - k = lo' then (some ⟨L.blk, L.sh + k * L.esz, none⟩ : Option Addr) else (some ⟨L.blk, L.sh + k * L.esz, none⟩ : Option Addr).map fun x => x.add (lo' * sz)) = some ⟨L.blk, L.sh + (k + lo') * L.esz, none⟩ := by
          by_cases h0 : lo' = 0
          · subst h0
            simp [Addr.add_lit]
          · have hlt : lo' < n := by
              rw [Bool.or_eq_true, beqN_iff, blt_iff] at h7
              omega
            rw [if_neg (by omega)]
            simp only [Option.map_some, Addr.add_lit, hez, Nat.add_mul, Nat.add_assoc]
        rw [hadd, Nat.sub_sub]
    · cases h
  · rename_i e b k0 k hu
    split at h
    · rename_i lo' hi' sz h1 h2 hsz
      have b1 := bound_run h1 hl
      have b2 := bound_run h2 hh
      obtain ⟨h3, h4⟩ := cond_some h
      obtain ⟨h3, h5⟩ := andT h3
      rw [beqN_iff] at h3 h5
      subst h3; subst h5
      simp only [Option.some.injEq] at h4
      subst h4
      have hX' := hX
      obtain ⟨L, hL, hc, rfl⟩ := conc_so hX
      refine ⟨_, hX', ?_⟩
      have := sb_run (P := P) (w := w) (cap := L.cap - k) true b1 b2 (Nat.le_refl _) (Nat.zero_le _)
      simp only [Instr.sliceAt, Instr.slice, Sem.run_bind, run_underlying hu, Result.andThen_ok, Option.map_none, this, sizeOf_run hsz, Sem.run_pure]
      by_cases h0 : L.cap - k = 0
      · rw [if_pos h0, h0]
      · rw [if_neg h0]; simp [Addr.add_lit]
    · cases h
  · rename_i e b o n c hu
    split at h
    · rename_i lo' hi' sz h1 h2 hsz
      have b1 := bound_run h1 hl
      have b2 := bound_run h2 hh
      obtain ⟨h3, h4⟩ := cond_some h
      obtain ⟨h3, h5⟩ := andT h3
      have h3 := Nat.le_of_ble_eq_true h3
      have h5 := Nat.le_of_ble_eq_true h5
      simp only [Option.some.injEq] at h4
      subst h4
      obtain ⟨L, hL, hc, rfl⟩ := conc_se hX
      have := sb_run (P := P) (w := w) (cap := c) true b1 b2 h3 h5
      refine ⟨.slice (some ⟨L.blk, L.sh + cond (Nat.beq c lo') o (o + lo' * sz), none⟩) (hi' - lo') (c - lo'), ?_, ?_⟩
      · simp only [conc, hL]; rw [if_pos (by omega)]
      · simp only [Instr.sliceAt, Instr.slice, Sem.run_bind, run_underlying hu, Result.andThen_ok, Option.map_none, this, sizeOf_run hsz, Sem.run_pure]
        congr 2
        cases hcl : Nat.beq c lo' with
        | true => rw [if_pos ((beqN_iff _ _).1 hcl)]; rfl
        | false =>
          rw [if_neg (fun e => by rw [← beqN_iff, hcl] at e; cases e)]
          simp only [Option.map_some, Addr.add_lit, cond_false, Nat.add_assoc]
    · cases h
  · rename_i e b o n c mx' hu
    split at h
    · rename_i lo' h' m sz hi' h1 h6 hsz h2
      have b1 := bound_run h1 hl
      have b2 := bound_run h2 hh
      have b3 := bound_run h6 (fun o ho => hm o ho)
      obtain ⟨h3, h4⟩ := cond_some h
      obtain ⟨h3, h8⟩ := andT h3
      obtain ⟨h3, h5⟩ := andT h3
      have h3 := Nat.le_of_ble_eq_true h3
      have h5 := Nat.le_of_ble_eq_true h5
      have h8 := Nat.le_of_ble_eq_true h8
      simp only [Option.some.injEq] at h4
      subst h4
      obtain ⟨L, hL, hc, rfl⟩ := conc_se hX
      have b2' : ∃ k, a.eval hi' = .int k (h' : Int) := by
        rcases b2 with ⟨hn, _⟩ | ⟨o2, k2, ho, e2⟩
        · cases hn
        · simp only [Option.some.injEq] at ho; subst ho; exact ⟨k2, e2⟩
      have b3' : ∃ k, a.eval mx' = .int k (m : Int) := by
        rcases b3 with ⟨hn, _⟩ | ⟨o2, k2, ho, e2⟩
        · cases hn
        · simp only [Option.some.injEq] at ho; subst ho; exact ⟨k2, e2⟩
      have := sb_run3 (P := P) (w := w) (len := n) (cap := c) true b1 b2' b3' h3 h5 h8
      refine ⟨.slice (some ⟨L.blk, L.sh + cond (Nat.beq m lo') o (o + lo' * sz), none⟩) (h' - lo') (m - lo'), ?_, ?_⟩
      · simp only [conc, hL]; rw [if_pos (by omega)]
      · simp only [Instr.sliceAt, Instr.slice, Sem.run_bind, run_underlying hu, Result.andThen_ok, Option.map_some, this, sizeOf_run hsz, Sem.run_pure]
        congr 2
        cases hcl : Nat.beq m lo' with
        | true => rw [if_pos ((beqN_iff _ _).1 hcl)]; rfl
        | false =>
          rw [if_neg (fun e => by rw [← beqN_iff, hcl] at e; cases e)]
          simp only [Addr.add_lit, cond_false, Nat.add_assoc]
    · cases h
  · rename_i n e b o hu
    split at h
    · rename_i lo' hi' sz h1 h2 hsz
      have b1 := bound_run h1 hl
      have b2 := bound_run h2 hh
      obtain ⟨h3, h4⟩ := cond_some h
      obtain ⟨h3, h5⟩ := andT h3
      have h3 := Nat.le_of_ble_eq_true h3
      have h5 := Nat.le_of_ble_eq_true h5
      simp only [Option.some.injEq] at h4
      subst h4
      obtain ⟨L, hL, rfl⟩ := conc_p hX
      have := sb_run (P := P) (w := w) (cap := n) false b1 b2 h3 h5
      refine ⟨.slice (some ⟨L.blk, L.sh + cond (Nat.beq n lo') o (o + lo' * sz), none⟩) (hi' - lo') (n - lo'), ?_, ?_⟩
      · simp only [conc, hL]; rw [if_pos (by omega)]
      · simp only [Instr.sliceAt, Sem.run_bind, run_underlying hu, Result.andThen_ok, Instr.sureAddr, Option.map_none, this, sizeOf_run hsz, Sem.run_pure]
        congr 2
        cases hcl : Nat.beq n lo' with
        | true => rw [if_pos ((beqN_iff _ _).1 hcl)]; rfl
        | false =>
          rw [if_neg (fun e => by rw [← beqN_iff, hcl] at e; cases e)]
          simp only [Addr.add_lit, cond_false, Nat.add_assoc]
    · cases h
  · cases h
end
end Go.Ce
