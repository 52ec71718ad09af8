/-
  A CLOSED EVALUATOR FOR THE MODEL: the quiet operations on places, parts and conversions; a quiet operation whole. Conditions: none.
-/
import Derived.Test.YtcfcagpcaclpkaaGreatDoorCeD
namespace Go.Ce
open Go Go.RowKit

theorem cond_some {α : Type} {b : Bool} {x : Option α} {v : α} (h : cond b x none = some v) : b = true ∧ x = some v := by cases b <;> simp at h; exact ⟨rfl, h⟩
theorem cond_some' {α : Type} {b : Bool} {x : Option α} {v : α} (h : cond b none x = some v) : b = false ∧ x = some v := by cases b <;> simp at h; exact ⟨rfl, h⟩
theorem andT {a b : Bool} (h : (a && b) = true) : a = true ∧ b = true := by simpa using h
theorem idxOf_some {v : CV} {m : Nat} (h : idxOf v = some m) : ∃ k, v = .i k (.ofNat m) := by
  unfold idxOf at h
  split at h <;> simp at h
  subst h; exact ⟨_, rfl⟩
theorem idx_run {P : Program} {ρ : Env} {v : CV} {m : Nat} (h : idxOf v = some m) {X : Value} (hX : conc ρ v = some X) : ∃ k, X = .int k (m : Int) ∧ ∀ w, (asIntOf X).run P w = .ok (k, (m : Int)) w := by
  obtain ⟨k, rfl⟩ := idxOf_some h
  simp only [conc, Option.some.injEq] at hX
  subst hX
  exact ⟨k, rfl, fun w => rfl⟩

section
variable {P : Program} {w0 : World} {ρ : Env} {A : AW} {w : World}
/-- The elements of a slice, where they lie. -/
theorem elems_run (hw : WR w0 ρ A w) {size : Nat} {v : CV} {l : List CV} (h : elemsA A size v = some l) {X : Value} (hX : conc ρ v = some X) :
    (X = .slice none 0 0 ∧ l = []) ∨ ∃ a n c xs, X = .slice (some a) n c ∧ concL ρ l = some xs ∧ xs.length = n * size ∧
      (∀ (j : Nat) u, xs[j]? = some u → w.cell? (a.add j) = some u) ∧ (loadCells a (n * size)).run P w = .ok xs.toArray w := by
  cases v <;> simp only [elemsA, reduceCtorEq] at h
  case ns =>
    simp only [Option.some.injEq] at h
    simp only [conc, Option.some.injEq] at hX
    exact .inl ⟨hX.symm, h.symm⟩
  case sl b n k =>
    obtain ⟨L, hL, hc, rfl⟩ := conc_sl hX
    cases hb : A.heap.get b with
    | none => simp [hb] at h
    | some ob =>
      simp only [hb] at h
      obtain ⟨h1, h2⟩ := cond_some h
      rw [beqN_iff] at h1
      obtain ⟨C, f, hB⟩ := hw.blk b ob L hb hL
      obtain ⟨xs, e1, e2, e3, e4⟩ := cells_run (P := P) hw hb hL h2
      rw [hB.esz, h1]
      exact .inr ⟨_, _, _, xs, rfl, e1, e2, e3, e4⟩
  case so b k0 k =>
    obtain ⟨L, hL, hc, rfl⟩ := conc_so hX
    simp only [Option.some.injEq] at h
    subst h
    exact .inr ⟨_, _, _, [], rfl, rfl, by simp, by simp, by rw [Nat.zero_mul]; rfl⟩
  case se b o n c =>
    obtain ⟨L, hL, hc, rfl⟩ := conc_se hX
    unfold cellsA at h
    cases hb : A.heap.get b with
    | none => simp [hb] at h
    | some ob =>
      simp only [hb] at h
      obtain ⟨xs, e1, e2, e3, e4⟩ := cells_run (P := P) hw hb hL h
      exact .inr ⟨_, _, _, xs, rfl, e1, e2, e3, e4⟩
theorem bytesA_run : ∀ {l : List CV} {m : List Nat}, bytesA l = some m → ∀ {xs : List Value}, concL ρ l = some xs →
    (∀ x ∈ m, x < 256) ∧ xs = m.map fun (x : Nat) => Value.int .u8 (x : Int)
  | [], m, h, xs, hx => by simp [bytesA] at h; simp [concL] at hx; subst h; subst hx; simp
  | c :: l, m, h, xs, hx => by
    unfold bytesA at h
    split at h
    · rename_i heq; cases heq
    · rename_i n l' heq
      injection heq with h1 h2
      subst h1; subst h2
      cases hb : bytesA l with
      | none => simp [hb] at h
      | some r =>
        simp only [hb] at h
        obtain ⟨h1, h2⟩ := cond_some h
        simp only [Option.some.injEq] at h2
        subst h2
        simp only [concL, conc] at hx
        cases hl : concL ρ l with
        | none => simp [hl] at hx
        | some ys =>
          simp only [hl, Option.some.injEq] at hx
          subst hx
          obtain ⟨e1, rfl⟩ := bytesA_run hb hl
          refine ⟨fun x hx => ?_, by simp⟩
          rcases List.mem_cons.1 hx with rfl | hx
          · exact (blt_iff _ _).1 h1
          · exact e1 x hx
    · simp at h
theorem enc_ascii (x : Nat) (h : x < 128) : Utf8.encode (x : Int) = bs [x] := by
  have hv : Utf8.valid (x : Int) = true := by
    simp only [Utf8.valid, Bool.or_eq_true, Bool.and_eq_true, decide_eq_true_iff]; omega
  simp [Utf8.encode, hv, h, bs]
theorem bs_one (m : Nat) (h : m < 256) : (bs [m]).data.toList.map UInt8.toNat = [m] := by
  have hm : (UInt8.ofNat m).toNat = m := by rw [UInt8.toNat_ofNat']; omega
  simp only [bs, List.map_cons, List.map_nil, hm]
theorem encL_ascii (m : Nat) (h : m < 128) : encL (m : Int) = [m] := by
  unfold encL
  rw [enc_ascii m h]
  exact bs_one m (by omega)
theorem encA_nat (m : Nat) : encA (Int.ofNat m) = cond (Nat.blt m 128) [m] (encL (Int.ofNat m)) := rfl
theorem encA_neg (m : Nat) : encA (Int.negSucc m) = encL (Int.negSucc m) := rfl
theorem encA_of (m : Nat) (hx : m < 128 → encL (Int.ofNat m) = [m]) : encA (Int.ofNat m) = encL (Int.ofNat m) := by
  rw [encA_nat]
  by_cases h : m < 128
  · rw [hx h]; cases Nat.blt m 128 <;> rfl
  · have : Nat.blt m 128 = false := by
      cases e : Nat.blt m 128
      · rfl
      · exact absurd ((blt_iff _ _).1 e) h
    rw [this, cond_false]
theorem encA_eq (n : Int) : encA n = encL n := by
  cases n with
  | ofNat m => exact encA_of m (encL_ascii m)
  | negSucc m => exact encA_neg m
theorem bs_encL (n : Int) : bs (encL n) = Utf8.encode n := bs_self _
theorem encL_lt (n : Int) : ∀ x ∈ encL n, x < 256 := by
  intro x hx
  simp only [encL, List.mem_map] at hx
  obtain ⟨y, _, rfl⟩ := hx
  exact y.toNat_lt
theorem runesA_run : ∀ {l : List CV} {m : List Nat}, runesA l = some m → ∀ {xs : List Value}, concL ρ l = some xs →
    (∀ x ∈ m, x < 256) ∧ ∃ ns : List Int, xs = ns.map (fun n => Value.int .i32 n) ∧ m = ns.flatMap encL
  | [], m, h, xs, hx => by
    simp only [runesA, Option.some.injEq] at h; simp only [concL, Option.some.injEq] at hx; subst h; subst hx
    exact ⟨by simp, [], rfl, rfl⟩
  | c :: l, m, h, xs, hx => by
    unfold runesA at h
    split at h
    · rename_i heq; cases heq
    · rename_i n l' heq
      injection heq with h1 h2
      subst h1; subst h2
      cases hb : runesA l with
      | none => simp [hb] at h
      | some r =>
        simp only [hb, Option.some.injEq] at h
        subst h
        simp only [concL, conc] at hx
        cases hl : concL ρ l with
        | none => simp [hl] at hx
        | some ys =>
          simp only [hl, Option.some.injEq] at hx
          subst hx
          obtain ⟨e1, ns, rfl, rfl⟩ := runesA_run hb hl
          refine ⟨fun x hx => ?_, n :: ns, rfl, by rw [encA_eq]; rfl⟩
          rcases List.mem_append.1 hx with hx | hx
          · rw [encA_eq] at hx; exact encL_lt n x hx
          · exact e1 x hx
    · simp at h
/-- The model's loop over bytes in cells. -/
theorem push_loop (P : Program) (w : World) (f : Value → ByteArray → Sem (ForInStep ByteArray)) (hf : ∀ (x : Nat) s, f (.int .u8 (x : Int)) s = pure (.yield (s.push (UInt8.ofNat x)))) : ∀ (m : List Nat) (s : ByteArray),
    Sem.run P (forIn (m.map fun (x : Nat) => Value.int .u8 (x : Int)) s f) w = .ok (s ++ bs m) w
  | [], s => by simp [bs]; apply ByteArray.ext; simp
  | x :: m, s => by
    simp only [List.map_cons, List.forIn_cons, Sem.run_bind, hf, Sem.run_pure, Result.andThen_ok]
    rw [push_loop P w f hf m]
    congr 1
    apply ByteArray.ext
    simp [bs, ByteArray.data_append, ByteArray.push]
theorem rune_loop (P : Program) (w : World) (f : Value → ByteArray → Sem (ForInStep ByteArray)) (hf : ∀ (x : Int) s, f (.int .i32 x) s = pure (.yield (s ++ Utf8.encode x))) : ∀ (ns : List Int) (s : ByteArray),
    Sem.run P (forIn (ns.map fun (x : Int) => Value.int .i32 x) s f) w = .ok (s ++ bs (ns.flatMap encL)) w
  | [], s => by simp [bs]; apply ByteArray.ext; simp
  | x :: ns, s => by
    simp only [List.map_cons, List.forIn_cons, Sem.run_bind, hf, Sem.run_pure, Result.andThen_ok]
    rw [rune_loop P w f hf ns, ← bs_encL x]
    congr 1
    apply ByteArray.ext
    simp [bs, ByteArray.data_append]
theorem b2s_run {a : Addr} {n c : Nat} {m : List Nat} (hl : (loadCells a n).run P w = .ok (m.map fun (x : Nat) => Value.int .u8 (x : Int)).toArray w) :
    (Conv.bytesToString (.slice (some a) n c)).run P w = .ok (.string (bs m)) w := by
  simp only [Conv.bytesToString, Sem.run_bind, hl, Result.andThen_ok]
  simp only [List.forIn_toArray]
  rw [push_loop P w _ (fun x s => rfl) m]
  simp only [Result.andThen_ok, Sem.run_pure]
  congr 2
theorem r2s_run {a : Addr} {n c : Nat} {ns : List Int} (hl : (loadCells a n).run P w = .ok (ns.map fun (x : Int) => Value.int .i32 x).toArray w) :
    (Conv.runesToString (.slice (some a) n c)).run P w = .ok (.string (bs (ns.flatMap encL))) w := by
  simp only [Conv.runesToString, Sem.run_bind, hl, Result.andThen_ok]
  simp only [List.forIn_toArray]
  rw [rune_loop P w _ (fun x s => rfl) ns]
  simp only [Result.andThen_ok, Sem.run_pure]
  congr 2
end

section
variable {P : Program} {w0 : World} {ρ : Env} {A : AW} {w : World}
/-- A row of variables of one type, from a place on where one begins. -/
theorem rowAt_self (P : Program) (u count off n d : Nat) (hs : 0 < P.cellsOf u) (h0 : off % P.cellsOf u = 0) (hn : off / P.cellsOf u + n ≤ count) (f : TypeId → Bool) (hf : f u = true) :
    rowAt P f (d + 1) u count off n = true := by
  unfold rowAt
  have : ¬ P.cellsOf u = 0 := by omega
  simp [this, h0, hn, hf]
theorem sameLayout_self (P : Program) (d u : Nat) : sameLayout P (d + 1) u u = true := by
  unfold sameLayout; simp
theorem depth_pos (P : Program) : ∃ d, P.depth = d + 1 := ⟨2 * (P.types.size + Made.depth) + 1, rfl⟩
theorem variablesAt_run {a : Addr} {u n : Nat} {C : Array Value} {f : Nat × Nat} (hC : w.heap[a.block]? = some (.cells C u f)) (hs : 0 < P.cellsOf u) (h0 : a.off % P.cellsOf u = 0) (hn : a.off / P.cellsOf u + n ≤ C.size / P.cellsOf u) :
    (variablesAt a u n).run P w = .ok true w := by
  obtain ⟨d, hd⟩ := depth_pos P
  have hsh : w.shape? a.block = some (u, C.size) := by simp [World.shape?, hC]
  simp only [variablesAt, Sem.run_bind, run_program, Result.andThen_ok, run_shape, hsh, Sem.run_pure]
  congr 1
  rw [hd]
  unfold liesAt
  rw [hd, rowAt_self P u _ _ _ d hs h0 hn (fun x => sameLayout P (d + 1) x u) (sameLayout_self P d u)]
  rfl
theorem cellsOf_size {t n : Nat} (h : sizeP P t = some n) : P.cellsOf t = n := by
  unfold sizeP at h
  cases hi : P.info? t <;> simp [hi] at h
  simp [Program.cellsOf, hi, h]
theorem unsafe_to (hw : WR w0 ρ A w) {src dst t : TypeId} (hs : P.underlying src = some (.pointer t)) (hd : P.underlying dst = some .unsafePointer) {n : Nat} (hn : sizeP P t = some n) (hn0 : n ≠ 0)
    {b o : Nat} {ob : AObj} {L : Loc} (hb : A.heap.get b = some ob) (hL : ρ b = some L) {v : CV} (ho : ob.cells[o]? = some v) :
    (Conv.unsafePointer src dst (.pointer (some ⟨L.blk, L.sh + o, none⟩))).run P w = .ok (.pointer (some ⟨L.blk, L.sh + o, none⟩)) w := by
  obtain ⟨C, f, hB⟩ := hw.blk b ob L hb hL
  obtain ⟨x, h1, h2⟩ := hB.cell o v ho
  have hlt : L.sh + o < C.size := (Array.getElem?_eq_some_iff.1 h2).1
  have hsh : w.shape? L.blk = some (ob.el, C.size) := by simp [World.shape?, hB.heap]
  simp [Conv.unsafePointer, Conv.seenAt, viewAt, cellsIn, run_underlying hs, run_underlying hd, hsh, sizeOf_run hn, hn0, Result.andThen]
  intro h; omega
theorem unsafe_from (hw : WR w0 ρ A w) {src dst u : TypeId} (hs : P.underlying src = some .unsafePointer) (hd : P.underlying dst = some (.pointer u)) {n : Nat} (hn : sizeP P u = some n) (hn0 : n ≠ 0)
    {b : Nat} {ob : AObj} {L : Loc} (hb : A.heap.get b = some ob) (hL : ρ b = some L) (hu : u = ob.el) {l : List CV} (ho : subN ob.cells 0 n = some l) (he : ob.esz = 0) :
    (Conv.unsafePointer src dst (.pointer (some ⟨L.blk, L.sh + 0, none⟩))).run P w = .ok (.pointer (some ⟨L.blk, L.sh + 0, none⟩)) w := by
  obtain ⟨C, f, hB⟩ := hw.blk b ob L hb hL
  subst hu
  have hsh0 := hB.shz he
  obtain ⟨e1, e2⟩ := subN_get ho
  have hlt : n - 1 < C.size := by
    have h3 := e2 (n - 1) (by omega)
    rw [List.getElem?_eq_getElem (by omega)] at h3
    obtain ⟨x, _, h4⟩ := hB.cell _ _ h3.symm
    have := (Array.getElem?_eq_some_iff.1 h4).1
    omega
  have hsh : w.shape? L.blk = some (ob.el, C.size) := by simp [World.shape?, hB.heap]
  have hc := cellsOf_size hn
  have hv := variablesAt_run (P := P) (w := w) (a := ⟨L.blk, L.sh + 0, none⟩) (u := ob.el) (n := 1) (C := C) (f := f) hB.heap (by omega) (by simp [hsh0]) (by
    rw [hc, hsh0]; simp
    exact (Nat.le_div_iff_mul_le (by omega)).2 (by omega))
  simp only [Nat.add_zero] at hv ⊢
  simp [Conv.unsafePointer, Conv.seenAt, viewAt, run_underlying hs, run_underlying hd, hsh, sizeOf_run hn, hv, Result.andThen]
end

/-- What an operand stands for. -/
def OK (ρ : Env) (fr : T CV) (a : Act) (x : Operand) : Prop := ∀ c, opVal fr x = some c → conc ρ c = some (a.eval x)
section
variable {P : Program} {w0 : World} {ρ : Env} {A : AW} {w : World} {fr : T CV} {a : Act}
theorem bytes_conv (hw : WR w0 ρ A w) {v : CV} {cs : List CV} {l : List Nat} (h1 : elemsA A 1 v = some cs) (h2 : bytesA cs = some l) {X : Value} (hX : conc ρ v = some X) :
    (∀ x ∈ l, x < 256) ∧ (Conv.bytesToString X).run P w = .ok (.string (bs l)) w := by
  rcases elems_run (P := P) hw h1 hX with ⟨rfl, rfl⟩ | ⟨a, n, c, xs, rfl, e1, e2, e3, e4⟩
  · simp [bytesA] at h2
    subst h2
    exact ⟨by simp, rfl⟩
  · obtain ⟨g1, rfl⟩ := bytesA_run h2 e1
    rw [Nat.mul_one] at e4
    exact ⟨g1, b2s_run e4⟩
theorem runes_conv (hw : WR w0 ρ A w) {v : CV} {cs : List CV} {l : List Nat} (h1 : elemsA A 1 v = some cs) (h2 : runesA cs = some l) {X : Value} (hX : conc ρ v = some X) :
    (∀ x ∈ l, x < 256) ∧ (Conv.runesToString X).run P w = .ok (.string (bs l)) w := by
  rcases elems_run (P := P) hw h1 hX with ⟨rfl, rfl⟩ | ⟨a, n, c, xs, rfl, e1, e2, e3, e4⟩
  · simp [runesA] at h2
    subst h2
    exact ⟨by simp, rfl⟩
  · obtain ⟨g1, ns, rfl, rfl⟩ := runesA_run h2 e1
    rw [Nat.mul_one] at e4
    exact ⟨g1, r2s_run e4⟩
theorem convA_run (hw : WR w0 ρ A w) {src dst : TypeId} {x v : CV} (h : convA P A src dst x = some v) {X : Value} (hX : conc ρ x = some X) :
    ∃ z, conc ρ v = some z ∧ (convert src dst X).run P w = .ok z w := by
  unfold convA at h
  split at h
  · -- to an unsafe pointer
    rename_i t b o hs hd
    obtain ⟨L, hL, rfl⟩ := conc_p hX
    split at h
    · rename_i n ob hn hb
      split at h
      · rename_i u hu
        obtain ⟨h1, h2⟩ := cond_some' h
        simp only [Option.some.injEq] at h2
        subst h2
        rw [getN_eq] at hu
        have hn0 : n ≠ 0 := fun e => by rw [← beqN_iff, h1] at e; cases e
        refine ⟨_, hX, ?_⟩
        have := unsafe_to hw hs hd hn hn0 hb hL hu
        simp only [convert, Sem.run_bind, run_underlying hs, run_underlying hd, Result.andThen_ok]
        exact this
      · cases h
    · cases h
  · rename_i u b o hs hd
    obtain ⟨L, hL, rfl⟩ := conc_p hX
    split at h
    · rename_i n ob hn hb
      obtain ⟨h1, h2⟩ := cond_some h
      obtain ⟨h1, h1e⟩ := andT h1
      obtain ⟨h1, h1n⟩ := andT h1
      obtain ⟨h1u, h1o⟩ := andT h1
      rw [beqN_iff] at h1u h1o h1e
      have hn0 : n ≠ 0 := fun e => by rw [← beqN_iff] at e; rw [e] at h1n; cases h1n
      split at h2
      · rename_i l hl
        simp only [Option.some.injEq] at h2
        subst h2; subst h1o
        refine ⟨_, hX, ?_⟩
        have := unsafe_from hw hs hd hn hn0 hb hL h1u hl h1e
        simp only [convert, Sem.run_bind, run_underlying hs, run_underlying hd, Result.andThen_ok]
        exact this
      · cases h2
    · cases h
  · -- a number
    rename_i d k k' n hs hd
    simp only [Option.some.injEq] at h
    subst h
    simp only [conc, Option.some.injEq] at hX
    subst hX
    rw [mkI_eq, wrapF_eq]
    refine ⟨_, rfl, ?_⟩
    simp only [convert, Sem.run_bind, run_underlying hs, run_underlying hd, Result.andThen_ok]
    cases d <;> rfl
  · -- a text
    rename_i d l hs hd
    simp only [Option.some.injEq] at h
    subst h
    obtain ⟨hl, rfl⟩ := conc_s hX
    refine ⟨_, hX, ?_⟩
    simp only [convert, Sem.run_bind, run_underlying hs, run_underlying hd, Result.andThen_ok]
    cases d <;> rfl
  · -- bytes or units
    rename_i x _ _ _ e hs hd hns
    have key : ∀ l, (∀ x ∈ l, x < 256) → (convert src dst X).run P w = .ok (.string (bs l)) w → some (CV.s l) = some v → ∃ z, conc ρ v = some z ∧ (convert src dst X).run P w = .ok z w := by
      intro l hl hr hv
      simp only [Option.some.injEq] at hv
      subst hv
      exact ⟨_, conc_s_mk hl, hr⟩
    have hXs : ∃ a n c, X = .slice a n c := by
      cases x <;> simp at h
      case ns => simp only [conc, Option.some.injEq] at hX; exact ⟨_, _, _, hX.symm⟩
      case sl b n k => obtain ⟨L, _, _, rfl⟩ := conc_sl hX; exact ⟨_, _, _, rfl⟩
      case se b o n k => obtain ⟨L, _, _, rfl⟩ := conc_se hX; exact ⟨_, _, _, rfl⟩
      case so b k0 k => obtain ⟨L, _, _, rfl⟩ := conc_so hX; exact ⟨_, _, _, rfl⟩
      all_goals (split at h <;> cases h)
    obtain ⟨a, n, c, rfl⟩ := hXs
    cases he : P.underlying e with
    | none => simp [he] at h
    | some de =>
      have hconv : ∀ r, ((de = .int .u8 ∧ (Conv.bytesToString (.slice a n c)).run P w = r) ∨ (de = .int .i32 ∧ (Conv.runesToString (.slice a n c)).run P w = r)) → (convert src dst (.slice a n c)).run P w = r := by
        intro r hr
        simp only [convert, Sem.run_bind, run_underlying hs, run_underlying hd, Result.andThen_ok]
        rcases hr with ⟨rfl, hr⟩ | ⟨rfl, hr⟩ <;> simp only [run_underlying he, Result.andThen_ok] <;> exact hr
      simp only [he] at h
      split at h
      · rename_i heq
        simp only [Option.some.injEq] at heq
        subst heq
        split at h
        · simp only [conc, Option.some.injEq] at hX
          refine key [] (by simp) (hconv _ (.inl ⟨rfl, ?_⟩)) h
          rw [← hX]; rfl
        · obtain ⟨L, _, _, he⟩ := conc_so hX
          refine key [] (by simp) (hconv _ (.inl ⟨rfl, ?_⟩)) h
          rw [he]; rfl
        · split at h
          · rename_i cs hcs
            split at h
            · rename_i l hl
              obtain ⟨g1, g2⟩ := bytes_conv (P := P) hw hcs hl hX
              exact key l g1 (hconv _ (.inl ⟨rfl, g2⟩)) h
            · cases h
          · cases h
        · split at h
          · rename_i cs hcs
            split at h
            · rename_i l hl
              obtain ⟨g1, g2⟩ := bytes_conv (P := P) hw hcs hl hX
              exact key l g1 (hconv _ (.inl ⟨rfl, g2⟩)) h
            · cases h
          · cases h
        · cases h
      · rename_i heq
        simp only [Option.some.injEq] at heq
        subst heq
        split at h
        · simp only [conc, Option.some.injEq] at hX
          refine key [] (by simp) (hconv _ (.inr ⟨rfl, ?_⟩)) h
          rw [← hX]; rfl
        · obtain ⟨L, _, _, he⟩ := conc_so hX
          refine key [] (by simp) (hconv _ (.inr ⟨rfl, ?_⟩)) h
          rw [he]; rfl
        · split at h
          · rename_i cs hcs
            split at h
            · rename_i l hl
              obtain ⟨g1, g2⟩ := runes_conv (P := P) hw hcs hl hX
              exact key l g1 (hconv _ (.inr ⟨rfl, g2⟩)) h
            · cases h
          · cases h
        · split at h
          · rename_i cs hcs
            split at h
            · rename_i l hl
              obtain ⟨g1, g2⟩ := runes_conv (P := P) hw hcs hl hX
              exact key l g1 (hconv _ (.inr ⟨rfl, g2⟩)) h
            · cases h
          · cases h
        · cases h
      · cases h
  · cases h
end
end Go.Ce
