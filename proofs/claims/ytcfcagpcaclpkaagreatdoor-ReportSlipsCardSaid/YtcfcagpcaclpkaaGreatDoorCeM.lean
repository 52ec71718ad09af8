/-
  A CLOSED EVALUATOR FOR THE MODEL: []byte of a text, unsafe.String, functions without a body; an operation that turns the world, whole. Conditions: the functions without a body are what the list says.
-/
import Derived.Test.YtcfcagpcaclpkaaGreatDoorCeL
import Derived.Lib.UnsafeStr
namespace Go.Ce
open Go Go.RowKit

section
variable {P : Program} {w0 : World} {ρ : Env} {A : AW} {w : World} {fr : T CV} {a : Act}
theorem concL_bytes {ρ : Env} (l : List Nat) : concL ρ (l.map fun m => CV.i .u8 (Int.ofNat m)) = some (l.map fun (m : Nat) => Value.int .u8 (m : Int)) := by
  induction l with
  | nil => rfl
  | cons x m ih => simp only [List.map_cons, concL, conc, ih]; rfl
theorem s2bA_run (hw : WR w0 ρ A w) {src dst : TypeId} {x v : CV} {A' : AW} (h : s2bA P A src dst x = some (v, A')) {X : Value} (hX : conc ρ x = some X) :
    ∃ z w', (convert src dst X).run P w = .ok z w' ∧ Out w0 ρ A v A' z w' := by
  unfold s2bA at h
  split at h
  · rename_i e l hs hd
    split at h
    · rename_i he hsz
      have hh := cond_some h
      clear h
      obtain ⟨h1, h⟩ := hh
      rw [blt_iff] at h1
      split at h
      case h_2 => cases h
      rename_i A2 hA2
      simp only [Option.some.injEq, Prod.mk.injEq] at h
      obtain ⟨rfl, rfl⟩ := h
      rw [lenN_eq] at h1 ⊢
      obtain ⟨hl, rfl⟩ := conc_s hX
      obtain ⟨v1, v2, v3, v4⟩ := hw.virt hA2
      have hge := grownCap_ge w l.length 0 e
      let C : Array Value := (l.map fun (m : Nat) => Value.int .u8 (m : Int)).toArray ++ Array.replicate (grownCap w l.length 0 e - l.length) (.int .u8 0)
      have hC : C.size = grownCap w l.length 0 e := by simp [C]; omega
      let w1 : World := w.drew.alloc (.cells C e)
      have hsh : w1.shape? w.heap.size = some (e, C.size) := by
        simp only [w1, World.shape?]
        rw [show w.heap.size = w.drew.heap.size from rfl, heap_alloc_new]
      have hheap : w1.heap = w.heap.push (.cells C e) := rfl
      -- the frozen mark is laid at once
      let w2 : World := w1.freeze ⟨w.heap.size, C.size, none⟩ 1
      have hw2 : w2.heap = w.heap.push (.cells C e (C.size, C.size + 1)) := by
        simp only [w2, World.freeze, hheap]
        apply Array.ext_getElem?
        intro j
        simp only [Nat.one_ne_zero, if_false, Array.getElem?_modify, Array.getElem?_push]
        by_cases hj : j = w.heap.size
        · subst hj; simp
        · have : ¬ w.heap.size = j := fun e => hj e.symm
          simp [hj, this]
      obtain ⟨r1, r2⟩ := v1.real v3 v4 (C := C) (f := (C.size, C.size + 1)) (cap := grownCap w l.length 0 e) (esz := 1) w2 hw2 rfl rfl rfl
        (fun j c hj => by
          obtain ⟨x, e1, e2⟩ := concL_get (concL_bytes (ρ := ρ) l) j c hj
          exact ⟨x, e1, by
            have := (List.getElem?_eq_some_iff.1 e2).1
            simp only [C]
            rw [Array.getElem?_append_left (by simpa using this)]
            simpa using e2⟩)
        (.inr (.inl ⟨rfl, rfl, Nat.le_refl _⟩)) rfl (by rw [hC]; omega)
      refine ⟨.slice (some ⟨w.heap.size, 0, none⟩) l.length (grownCap w l.length 0 e), w2, ?_, _, r1, ⟨fun b hb => Env.set_other _ _ (by omega), v2.next, v2.keep⟩, ?_⟩
      · have hdata : (bs l).data.map (fun b => Value.int .u8 (b.toNat : Int)) = (l.map fun (m : Nat) => Value.int .u8 (m : Int)).toArray := by
          simp only [bs]
          simp
          intro x hx
          have := hl x hx
          omega
        simp only [convert, Sem.run_bind, run_underlying hs, run_underlying hd, run_underlying he, Result.andThen_ok, Conv.stringToBytes, run_choose, Question.forced, Bool.false_eq_true, if_false, bs_size, newRow, run_newObj, Sem.run_pure, markStringish, run_shape]
        rw [hdata]
        have hgc : (Question.appendCap l.length 0 e).cut (w.tape w.drawn (.appendCap l.length 0 e)) = grownCap w l.length 0 e := rfl
        rw [hgc]
        erw [hsh]
        rfl
      · simp only [conc, Env.set_same]
        rw [if_pos (by simpa using hge)]
        simp
    · cases h
  · rename_i e' e b n k hs hd
    have hh := cond_some h
    clear h
    obtain ⟨h1, h⟩ := hh
    rw [beqN_iff] at h1
    subst h1
    obtain rfl : e' = e := by rw [hs] at hd; injection hd with hd; injection hd
    split at h
    · rename_i A2 he hm
      simp only [Option.some.injEq, Prod.mk.injEq] at h
      obtain ⟨rfl, rfl⟩ := h
      obtain ⟨L, hL, hc, rfl⟩ := conc_sl hX
      obtain ⟨w', e1, e2, e3⟩ := markA_run (P := P) hw hm hL (L.sh + k * L.esz)
      refine ⟨_, w', ?_, ρ, e2, e3, hX⟩
      simp only [convert, Sem.run_bind, run_underlying hs, run_underlying he, Result.andThen_ok, beq_self_eq_true, e1, Sem.run_pure]
    · cases h
  · rename_i e' e b o n c hs hd
    have hh := cond_some h
    clear h
    obtain ⟨h1, h⟩ := hh
    rw [beqN_iff] at h1
    subst h1
    obtain rfl : e' = e := by rw [hs] at hd; injection hd with hd; injection hd
    split at h
    · rename_i A2 he hm
      simp only [Option.some.injEq, Prod.mk.injEq] at h
      obtain ⟨rfl, rfl⟩ := h
      obtain ⟨L, hL, hc, rfl⟩ := conc_se hX
      obtain ⟨w', e1, e2, e3⟩ := markA_run (P := P) hw hm hL (L.sh + o)
      refine ⟨_, w', ?_, ρ, e2, e3, hX⟩
      simp only [convert, Sem.run_bind, run_underlying hs, run_underlying he, Result.andThen_ok, beq_self_eq_true, e1, Sem.run_pure]
    · cases h
  · cases h
/-- Bytes in cells, read one by one. -/
theorem loadBytes_run {P : Program} {w : World} {g : Nat} : ∀ (l : List Nat) (o : Nat) (acc : List Nat), (∀ (j : Nat) (x : Nat), l[j]? = some x → w.cell? ⟨g, o + j, none⟩ = some (.int .u8 (x : Int))) →
    (loadBytes ⟨g, o, none⟩ (bs acc) l.length).run P w = .ok (bs (acc ++ l)) w
  | [], o, acc, _ => by simp [loadBytes]
  | x :: l, o, acc, h => by
    have h0 := h 0 x (by simp)
    simp only [Nat.add_zero] at h0
    have ih := loadBytes_run (P := P) (w := w) l (o + 1) (acc ++ [x]) (fun j y hy => by have := h (j + 1) y (by simpa using hy); rw [show o + 1 + j = o + (j + 1) by omega]; exact this)
    have hpush : (bs acc).push ((x : Int).toNat.toUInt8) = bs (acc ++ [x]) := by
      apply ByteArray.ext
      simp [bs, ByteArray.push]
    simp only [List.length_cons, loadBytes, Sem.run_bind, run_load, h0, Result.andThen_ok, Addr.add_lit]
    rw [show acc ++ x :: l = (acc ++ [x]) ++ l by simp]
    rw [← ih, ← hpush]
theorem usA_run (hw : WR w0 ρ A w) {tys : List TypeId} {p n v : CV} {A' : AW} (h : usA P A tys p n = some (v, A')) {X Y : Value} (hX : conc ρ p = some X) (hY : conc ρ n = some Y) (ty : TypeId) :
    ∃ z w', (Builtin.unsafeString_ tys.toArray ty #[X, Y]).run P w = .ok z w' ∧ Out w0 ρ A v A' z w' := by
  unfold usA at h
  split at h
  · rename_i pt it m
    have hh := cond_some h
    clear h
    obtain ⟨h0, h⟩ := hh
    obtain rfl := (beqN_iff _ _).1 h0
    simp only [Option.some.injEq, Prod.mk.injEq] at h
    obtain ⟨rfl, rfl⟩ := h
    simp only [conc, Option.some.injEq] at hX hY
    subst hX; subst hY
    exact ⟨.string .empty, w, Lib.run_unsafeString_none w pt it ty none, ρ, hw, Good.refl _ _, conc_s_mk (by simp)⟩
  · rename_i pt it b o m
    obtain ⟨L, hL, rfl⟩ := conc_p hX
    simp only [conc, Option.some.injEq] at hY
    subst hY
    have hn0 : ¬ ((m : Int) < 0) := by omega
    cases hz : Nat.beq m 0 with
    | true =>
      rw [hz] at h
      simp only [cond_true, Option.some.injEq, Prod.mk.injEq] at h
      obtain ⟨rfl, rfl⟩ := h
      have := (beqN_iff _ _).1 hz
      subst this
      exact ⟨.string .empty, w, Lib.run_unsafeString_none w pt it ty _, ρ, hw, Good.refl _ _, conc_s_mk (by simp)⟩
    | false =>
      rw [hz] at h
      simp only [cond_false] at h
      have hm0 : m ≠ 0 := fun e => by rw [← beqN_iff, hz] at e; cases e
      split at h
      case h_2 => cases h
      rename_i e ob hpt hb
      split at h
      case h_2 => cases h
      rename_i he hsz
      have hh := cond_some h
      clear h
      obtain ⟨h1, h⟩ := hh
      obtain ⟨h1, hro⟩ := andT h1
      have hro : ob.ro = false := by simpa using hro
      obtain ⟨h1, hfb⟩ := andT h1
      obtain ⟨h1, h2⟩ := andT h1
      rw [beqN_iff] at h1
      rw [blt_iff] at h2
      have hfb : ob.fb = false := by simpa using hfb
      subst h1
      split at h
      case h_2 => cases h
      rename_i cs hcs
      split at h
      case h_2 => cases h
      rename_i l hl
      simp only [Option.some.injEq, Prod.mk.injEq] at h
      obtain ⟨rfl, rfl⟩ := h
      obtain ⟨C, f, hB⟩ := hw.blk b ob L hb hL
      obtain ⟨xs, x1, x2, x3, x4⟩ := cells_run (P := P) hw hb hL hcs
      obtain ⟨l1, rfl⟩ := bytesA_run hl x1
      simp at x2
      have hcell : ∀ (j : Nat) (x : Nat), l[j]? = some x → w.cell? ⟨L.blk, L.sh + o + j, none⟩ = some (.int .u8 (x : Int)) := by
        intro j x hj
        have := x3 j (.int .u8 (x : Int)) (by simp [hj])
        rw [Addr.add_lit] at this
        exact this
      have hsize : L.sh + o + m ≤ C.size := by
        have hlast : m - 1 < l.length := by omega
        have := hcell (m - 1) _ (List.getElem?_eq_getElem hlast)
        rw [hB.cell?] at this
        have := (Array.getElem?_eq_some_iff.1 this).1
        omega
      have hc1 := cellsOf_size hsz
      have hv := variablesAt_run (P := P) (w := w) (a := ⟨L.blk, L.sh + o, none⟩) (u := ob.el) (n := m) (C := C) (f := f) hB.heap (by omega) (by rw [hc1]; simp; omega) (by rw [hc1]; simpa using hsize)
      have hload := loadBytes_run (P := P) (w := w) (g := L.blk) l (L.sh + o) [] hcell
      obtain ⟨g1, g2⟩ := freeze_block (ob' := { ob with fz := cond (Nat.ble ob.fz (o + m)) (o + m) ob.fz }) hw hb hro hL (L.sh + o) m (by omega) rfl rfl rfl (fun size g hg _ => by
        obtain ⟨lo, hi⟩ := g
        have hmx : (cond (Nat.ble ob.fz (o + m)) (o + m) ob.fz) = max ob.fz (o + m) := by
          cases hbl : Nat.ble ob.fz (o + m) with
          | true => have := Nat.le_of_ble_eq_true hbl; simp only [cond_true]; omega
          | false =>
            have : ¬ ob.fz ≤ o + m := fun e => by rw [← Nat.ble_eq, hbl] at e; cases e
            simp only [cond_false]; omega
        unfold Fz at hg ⊢
        simp only [hmx, hfb] at hg ⊢
        by_cases hne : lo = hi
        · subst hne
          simp
          omega
        · rw [if_neg (by simpa using hne)]
          simp at hg
          rcases hg with hg | ⟨hg2, hg3⟩
          · exact absurd hg hne
          · refine .inr (.inr ⟨trivial, ?_, ?_⟩) <;> simp only <;> omega)
      refine ⟨.string (bs l), w.freeze ⟨L.blk, L.sh + o, none⟩ m, ?_, ρ, g1, g2, conc_s_mk l1⟩
      rw [x2] at hload
      simp only [List.nil_append] at hload
      have hem : bs [] = ByteArray.empty := by apply ByteArray.ext; simp [bs]
      rw [hem] at hload
      have hdef : Builtin.unsafeString_ #[pt, it] ty #[.pointer (some ⟨L.blk, L.sh + o, none⟩), .int .i64 (m : Int)] =
          (do
            let n ← asInt (.int .i64 (m : Int))
            if n < 0 then runtimePanic (.error "unsafe.String: len out of range")
            if n > IntKind.i64.max then unsupported (.unsafePointer "String: a length above the largest int")
            if n = 0 then pure (.string .empty)
            else if ← variablesAt ⟨L.blk, L.sh + o, none⟩ (← elemOf pt) n.toNat then do
              let s ← loadBytes ⟨L.blk, L.sh + o, none⟩ .empty n.toNat
              freeze ⟨L.blk, L.sh + o, none⟩ n.toNat
              pure (.string s)
            else unsupported (.unsafePointer "String: not so many bytes at ptr")) := rfl
      refine (congrArg (fun s => Sem.run P s w) hdef).trans ?_
      simp [asInt, asIntOf, hn0, hm0, elemOf, run_underlying hpt, hv, hload]
      omega
  · cases h
end

/-! ### Functions without a body -/
def Ext.entry : Ext → Array Value → Sem Value
  | .same => Extern.AbiNoEscape.same
  | .indexByte => Extern.BytealgIndexByte.indexByte
def ExtOK (P : Program) (exts : List (Nat × Ext)) : Prop := ∀ f e, extOf exts f = some e → ∃ fn, P.funcs[f]? = some fn ∧ (fn.name == "runtime.NumGoroutine") = false ∧ fn.body.isNone = true ∧ Extern.findNext fn = none ∧ Extern.find fn = some e.entry
def NumOK (P : Program) : Prop := ∀ (f : Nat) fn, P.funcs[f]? = some fn → fn.body.isSome = true → (fn.name == "runtime.NumGoroutine") = false
theorem bs_bang (l : List Nat) (j : Nat) (h : j < l.length) : (bs l)[j]! = UInt8.ofNat l[j] := by
  have hj' : j < (bs l).size := by rw [bs_size]; exact h
  rw [getElem!_pos (bs l) j hj']
  show (bs l).data[j] = _
  simp [bs]
theorem find_congr {α : Type} {p q : α → Bool} : ∀ {l : List α}, (∀ x ∈ l, p x = q x) → l.find? p = l.find? q
  | [], _ => rfl
  | x :: l, h => by
    simp only [List.find?_cons, h x (by simp)]
    rw [find_congr fun y hy => h y (by simp [hy])]
theorem firstA_eq {m : Nat} (hm : m < 256) : ∀ (l : List Nat) (i : Nat), (∀ x ∈ l, x < 256) →
    firstA m l i = ((List.range l.length).find? fun j => (bs l)[j]! == UInt8.ofNat m).map (· + i)
  | [], i, _ => rfl
  | x :: l, i, h => by
    have hx := h x (by simp)
    have ih := firstA_eq hm l (i + 1) (fun y hy => h y (by simp [hy]))
    have h0 : ((bs (x :: l))[0]! == UInt8.ofNat m) = Nat.beq x m := by
      rw [bs_bang _ 0 (by simp), Bool.eq_iff_iff, beq_iff_eq, beqN_iff, ← UInt8.toNat_inj]
      simp
      omega
    simp only [firstA, List.length_cons, List.range_succ_eq_map, List.find?_cons, h0]
    cases hb : Nat.beq x m with
    | true => simp
    | false =>
      simp only [cond_false, ih, List.find?_map]
      rw [Option.map_map]
      have hc : (List.range l.length).find? ((fun j => (bs (x :: l))[j]! == UInt8.ofNat m) ∘ Nat.succ) = (List.range l.length).find? fun j => (bs l)[j]! == UInt8.ofNat m :=
        find_congr fun j hj => by
          have hj : j < l.length := List.mem_range.1 hj
          simp only [Function.comp]
          rw [bs_bang _ _ hj, bs_bang _ _ (by simp; omega)]
          simp
      rw [hc]
      congr 1
      funext j
      simp
      omega
theorem extA_run {ρ : Env} {P : Program} {e : Ext} {vs : List CV} {v : CV} (h : extA e vs = some v) {xs : List Value} (hx : concL ρ vs = some xs) (w : World) :
    ∃ z, conc ρ v = some z ∧ (e.entry xs.toArray).run P w = .ok z w := by
  unfold extA at h
  split at h
  · simp only [Option.some.injEq] at h
    subst h
    simp only [concL] at hx
    rename_i v
    cases hv : conc ρ v <;> simp [hv] at hx
    subst hx
    exact ⟨_, rfl, rfl⟩
  · rename_i l m
    have hh := cond_some h
    clear h
    obtain ⟨h1, h⟩ := hh
    rw [blt_iff] at h1
    simp only [concL, conc] at hx
    by_cases hl : l.all (fun m => decide (m < 256)) = true
    · rw [if_pos hl] at hx
      simp only [Option.some.injEq] at hx
      subst hx
      have hl' : ∀ x ∈ l, x < 256 := fun x hx => by simpa using List.all_eq_true.1 hl x hx
      have hrun := run_indexByte_string (P := P) (bs l) (m : Int) w
      have hfe := firstA_eq h1 l 0 hl'
      have hu : ((m : Int).toNat.toUInt8) = UInt8.ofNat m := rfl
      unfold firstIdx at hrun
      rw [hu, bs_size] at hrun
      split at h
      · rename_i i hi
        rw [hi] at hfe
        simp only [Option.some.injEq] at h
        subst h
        refine ⟨_, rfl, hrun.trans ?_⟩
        cases hfd : List.find? (fun j => (bs l)[j]! == UInt8.ofNat m) (List.range l.length) with
        | none => rw [hfd] at hfe; cases hfe
        | some q => rw [hfd] at hfe; simp at hfe; simp [hfe]
      · rename_i hi
        rw [hi] at hfe
        simp only [Option.some.injEq] at h
        subst h
        refine ⟨_, rfl, hrun.trans ?_⟩
        cases hfd : List.find? (fun j => (bs l)[j]! == UInt8.ofNat m) (List.range l.length) with
        | none => rfl
        | some q => rw [hfd] at hfe; cases hfe
    · rw [if_neg hl] at hx
      cases hx
  · cases h
end Go.Ce
