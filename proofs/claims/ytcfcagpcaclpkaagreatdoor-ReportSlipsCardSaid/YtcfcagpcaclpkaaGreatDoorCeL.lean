/-
  A CLOSED EVALUATOR FOR THE MODEL: append, []byte of a text, unsafe.String, functions without a body. Conditions: none.
-/
import Derived.Test.YtcfcagpcaclpkaaGreatDoorCeJ
namespace Go.Ce
open Go Go.RowKit

section
variable {P : Program} {w0 : World} {ρ : Env} {A : AW} {w : World} {fr : T CV} {a : Act}
theorem newsA_run (hw : WR w0 ρ A w) {size m : Nat} {x : CV} {news : List CV} (h : newsA A size x = some (m, news)) {X : Value} (hX : conc ρ x = some X) :
    ∃ xs, concL ρ news = some xs ∧ xs.length = m * size ∧ (Builtin.lenOf X).run P w = .ok m w ∧ (Builtin.firstCells size m X).run P w = .ok xs.toArray w ∧ (Builtin.firstCells size m X).run P w.drew = .ok xs.toArray w.drew := by
  have key : ∀ l, elemsA A size x = some l → (∀ a n c, X = .slice a n c → n = m) → l = news → (∃ a c, X = .slice a m c) → ∃ xs, concL ρ news = some xs ∧ xs.length = m * size ∧ (Builtin.lenOf X).run P w = .ok m w ∧ (Builtin.firstCells size m X).run P w = .ok xs.toArray w ∧ (Builtin.firstCells size m X).run P w.drew = .ok xs.toArray w.drew := by
    rintro l hl hn rfl ⟨a, c, rfl⟩
    rcases elems_run (P := P) hw hl hX with ⟨he, rfl⟩ | ⟨a', n', c', xs, he, e1, e2, e3, e4⟩
    · injection he with h1 h2 h3
      subst h1; subst h2
      exact ⟨[], rfl, by simp, rfl, rfl, rfl⟩
    · injection he with h1 h2 h3
      subst h1; subst h2
      rcases elems_run (P := P) hw.drew hl hX with ⟨he', _⟩ | ⟨a2, n2, c2, ys, he2, g1, g2, g3, g4⟩
      · cases he'
      · injection he2 with k1 k2 k3
        injection k1 with k1
        subst k1; subst k2
        obtain rfl : xs = ys := by rw [e1] at g1; injection g1
        exact ⟨xs, e1, e2, rfl, e4, g4⟩
  unfold newsA at h
  split at h
  · simp only [Option.some.injEq, Prod.mk.injEq] at h
    obtain ⟨rfl, rfl⟩ := h
    simp only [conc, Option.some.injEq] at hX
    subst hX
    exact ⟨[], rfl, by simp, rfl, rfl, rfl⟩
  · rename_i b k0 k
    simp only [Option.some.injEq, Prod.mk.injEq] at h
    obtain ⟨rfl, rfl⟩ := h
    obtain ⟨L, _, _, rfl⟩ := conc_so hX
    exact ⟨[], rfl, by simp, rfl, by simp only [Builtin.firstCells, Nat.zero_mul]; rfl, by simp only [Builtin.firstCells, Nat.zero_mul]; rfl⟩
  · split at h
    · rename_i b n k l hl
      simp only [Option.some.injEq, Prod.mk.injEq] at h
      obtain ⟨rfl, rfl⟩ := h
      obtain ⟨L, _, _, rfl⟩ := conc_sl hX
      exact key _ hl (fun a n c he => by injection he with _ h2 _; exact h2.symm) rfl ⟨_, _, rfl⟩
    · cases h
  · split at h
    · rename_i b o n c l hl
      simp only [Option.some.injEq, Prod.mk.injEq] at h
      obtain ⟨rfl, rfl⟩ := h
      obtain ⟨L, _, _, rfl⟩ := conc_se hX
      exact key _ hl (fun a n c he => by injection he with _ h2 _; exact h2.symm) rfl ⟨_, _, rfl⟩
    · cases h
  · rename_i l
    obtain ⟨h1, h2⟩ := cond_some h
    rw [beqN_iff] at h1
    subst h1
    simp only [Option.some.injEq, Prod.mk.injEq] at h2
    obtain ⟨rfl, rfl⟩ := h2
    obtain ⟨hl, rfl⟩ := conc_s hX
    rw [lenN_eq]
    have hx : ∀ m : List Nat, concL ρ (m.map fun m => CV.i .u8 (Int.ofNat m)) = some (m.map fun (m : Nat) => Value.int .u8 (m : Int)) := by
      intro m
      induction m with
      | nil => rfl
      | cons x m ih => simp only [List.map_cons, concL, conc, ih]; rfl
    have hf : ((bs l).extract 0 l.length).data.map (fun b => Value.int .u8 (b.toNat : Int)) = (l.map fun (m : Nat) => Value.int .u8 (m : Int)).toArray := by
      unfold bs
      rw [ByteArray.extract_mk]
      simp
      rw [List.take_of_length_le (by simp)]
      refine List.map_congr_left fun x hx => ?_
      have := hl x hx
      simp
      omega
    refine ⟨_, hx l, by simp, by simp [Builtin.lenOf, bs_size], ?_, ?_⟩
    · simp only [Builtin.firstCells, Sem.run_pure, hf]
    · simp only [Builtin.firstCells, Sem.run_pure, hf]
  · cases h
theorem notInt_some {d : Option TypeDesc} (h : notInt d = true) : ∃ d', d = some d' ∧ ∀ k, d' ≠ .int k := by
  unfold notInt at h
  split at h
  · exact ⟨_, rfl, by simp⟩
  · exact ⟨_, rfl, by simp⟩
  · cases h
theorem append_room {t u ty e : TypeId} {tys : List TypeId} {i : TypeInfo} (ht : P.underlying t = some (.slice e)) (hu : notInt (P.underlying u) = true) (hi : P.info? e = some i)
    {b : Addr} {n c m : Nat} {X : Value} {xs : List Value} (hlen : (Builtin.lenOf X).run P w = .ok m w) (hf : (Builtin.firstCells i.size m X).run P w = .ok xs.toArray w) (hroom : n + m ≤ c)
    {w' : World} (hst : (storeCells (b.add (n * i.size)) xs).run P w = .ok () w') :
    (Builtin.append_ (t :: u :: tys).toArray ty #[.slice (some b) n c, X]).run P w = .ok (.slice (some b) (n + m) c) w' := by
  obtain ⟨d, hd, hdk⟩ := notInt_some hu
  simp [Builtin.append_, run_underlying ht, run_underlying hd, sizeOf, typeInfo, hi, hlen, hroom, hf, hst]
theorem append_grow {t u ty e : TypeId} {tys : List TypeId} {i : TypeInfo} {z : Value} (ht : P.underlying t = some (.slice e)) (hu : notInt (P.underlying u) = true) (hi : P.info? e = some i) (hz : i.zero = some z)
    {base : Option Addr} {n c m : Nat} {X : Value} {olds xs : List Value} (hlen : (Builtin.lenOf X).run P w = .ok m w) (hfo : (Builtin.firstCells i.size n (.slice base n c)).run P w.drew = .ok olds.toArray w.drew) (hf : (Builtin.firstCells i.size m X).run P w.drew = .ok xs.toArray w.drew) (hg : c < n + m) (hsmall : (n + m) * i.bytes < 1099511627776) (hs2 : n + m < 1099511627776) :
    (Builtin.append_ (t :: u :: tys).toArray ty #[.slice base n c, X]).run P w = .ok (.slice (some ⟨w.heap.size, 0, none⟩) (n + m) (grownCap w (n + m) c e))
        (w.drew.alloc (.cells (olds.toArray ++ xs.toArray ++ Builtin.zeroCells z.cells (grownCap w (n + m) c e - (n + m))) e)) := by
  obtain ⟨d, hd, hdk⟩ := notInt_some hu
  have hn : ¬ (n + m ≤ c) := by omega
  have h63' : ¬ (9223372036854775807 < ((n : Int) + (m : Int))) := by omega
  have hfit := growslice_fits (need := n + m) (old := c) (bytes := i.bytes) hg (by omega)
  have h48' : ¬ (281474976710656 < Builtin.nextslicecap (n + m) c * i.bytes) := by omega
  simp [Builtin.append_, run_underlying ht, run_underlying hd, sizeOf, typeInfo, zeroValue, hi, hz, hlen, hn, h63', h48', Question.forced, hf, hfo, newRow, grownCap]
  congr 2
  apply Array.ext'
  simp
end
section
variable {P : Program} {w0 : World} {ρ : Env} {A : AW} {w : World} {fr : T CV} {a : Act}
/-- A growable row in a new block. -/
theorem grown_new (hw : WR w0 ρ A w) {e : TypeId} {i : TypeInfo} {z : Value} (hz : z.cells.size = i.size) {cells : List CV} {xs : List Value} (hx : concL ρ cells = some xs) {need c : Nat} (hlen : xs.length = need * i.size)
    {fz : Nat} {fb : Bool} {A' : AW} (hA : A.new { cells := cells, el := e, esz := i.size, fz := fz, fb := fb } = some A') :
    Out w0 ρ A (.sl A.next need 0) A' (.slice (some ⟨w.heap.size, 0, none⟩) need (grownCap w need c e)) (w.drew.alloc (.cells (xs.toArray ++ Builtin.zeroCells z.cells (grownCap w need c e - need)) e)) := by
  obtain ⟨v1, v2, v3, v4⟩ := hw.virt hA
  have hge := grownCap_ge w need c e
  have hsize : (xs.toArray ++ Builtin.zeroCells z.cells (grownCap w need c e - need)).size = grownCap w need c e * i.size := by
    simp only [Array.size_append, List.size_toArray, size_zeroCells, hz, hlen, ← Nat.add_mul]
    congr 1
    omega
  obtain ⟨r1, r2⟩ := v1.real v3 v4 (C := xs.toArray ++ Builtin.zeroCells z.cells (grownCap w need c e - need)) (f := (0, 0)) (cap := grownCap w need c e) (esz := i.size)
    (w.drew.alloc (.cells (xs.toArray ++ Builtin.zeroCells z.cells (grownCap w need c e - need)) e)) rfl rfl rfl rfl
    (fun j v hj => by
      obtain ⟨x, e1, e2⟩ := concL_get hx j v hj
      exact ⟨x, e1, by rw [Array.getElem?_append_left (by have := (List.getElem?_eq_some_iff.1 e2).1; simpa using this)]; simpa using e2⟩)
    (.inl rfl) rfl (by rw [hsize]; exact Nat.le_refl _)
  refine ⟨_, r1, ⟨fun b hb => Env.set_other _ _ (by omega), v2.next, v2.keep⟩, ?_⟩
  simp only [conc, Env.set_same]
  rw [if_pos (by simpa using hge)]
  simp
/-- A block of the machine's is bound to a block that is there, and that no other live block is bound to. -/
theorem WR.bind (hw : WR w0 ρ A w) {n : Nat} {ob : AObj} (hob : A.heap.get n = some ob) (hn : ρ n = none) {L : Loc} {C : Array Value} {f : Nat × Nat} (hB : BR w0.heap.size ρ w ob L C f)
    (hfree : ∀ c oc M, A.heap.get c = some oc → ρ c = some M → M.blk ≠ L.blk) : WR w0 (ρ.set n L) A w := by
  have hle := Env.set_le (L := L) hn
  refine ⟨hw.below, fun b M hb => ?_, hw.dead, fun b ob' M hb hM => ?_, fun b b' o o' M M' hb hb' hM hM' hro he => ?_⟩
  · by_cases e : b = n
    · subst e; exact hw.lt hob
    · rw [Env.set_other ρ _ e] at hb; exact hw.dom b M hb
  · by_cases e : b = n
    · subst e
      rw [Env.set_same] at hM
      simp only [Option.some.injEq] at hM
      subst hM
      rw [hob] at hb
      simp only [Option.some.injEq] at hb
      subst hb
      exact ⟨C, f, hB.base, hB.heap, fun j v hj => by
        obtain ⟨x, e1, e2⟩ := hB.cell j v hj
        exact ⟨x, conc_mono hle v x e1, e2⟩, hB.froz, hB.esz, hB.room, hB.shz⟩
    · rw [Env.set_other ρ _ e] at hM
      obtain ⟨D, g, hD⟩ := hw.blk b ob' M hb hM
      exact ⟨D, g, hD.base, hD.heap, fun j v hj => by
        obtain ⟨x, e1, e2⟩ := hD.cell j v hj
        exact ⟨x, conc_mono hle v x e1, e2⟩, hD.froz, hD.esz, hD.room, hD.shz⟩
  · by_cases e : b = n <;> by_cases e' : b' = n
    · omega
    · subst e
      rw [Env.set_same] at hM
      simp only [Option.some.injEq] at hM
      subst hM
      rw [Env.set_other ρ _ e'] at hM'
      exact absurd he.symm (hfree b' o' M' hb' hM')
    · subst e'
      rw [Env.set_same] at hM'
      simp only [Option.some.injEq] at hM'
      subst hM'
      rw [Env.set_other ρ _ e] at hM
      exact absurd he (hfree b o M hb hM)
    · rw [Env.set_other ρ _ e] at hM
      rw [Env.set_other ρ _ e'] at hM'
      exact hw.inj b b' o o' M M' hb hb' hM hM' hro he
/-- A block that no live block is bound to is written. -/
theorem WR.off (hw : WR w0 ρ A w) {g : Nat} (hg : w0.heap.size ≤ g) (hfree : ∀ c oc M, A.heap.get c = some oc → ρ c = some M → M.blk ≠ g) {w' : World} (hsz : w'.heap.size = w.heap.size) (hos : w'.os = w.os) (htape : w'.tape = w.tape) (hout : w'.output = w.output)
    (hother : ∀ k, k ≠ g → w'.heap[k]? = w.heap[k]?) : WR w0 ρ A w' :=
  ⟨hw.below.trans ⟨hos, htape, hout, by omega, fun k hk => hother k (by omega)⟩, hw.dom, hw.dead, fun b ob L hb hL => by
    obtain ⟨C, f, hB⟩ := hw.blk b ob L hb hL
    exact ⟨C, f, hB.base, by rw [hother _ (hfree b ob L hb hL)]; exact hB.heap, hB.cell, hB.froz, hB.esz, hB.room, hB.shz⟩, hw.inj⟩
theorem store_block' (hw : WR w0 ρ A w) {b off : Nat} {ob : AObj} {L : Loc} (hb : A.heap.get b = some ob) (hro : ob.ro = false) (hL : ρ b = some L) {vs cs : List CV} {xs : List Value} (hv : concL ρ vs = some xs) (h1 : allOne vs = true) (hs : setL ob.cells off vs = some cs) (hfz : ob.fz ≤ off) :
    ∃ w', (storeCells ⟨L.blk, L.sh + off, none⟩ xs).run P w = .ok () w' ∧ WR w0 ρ (A.put b (some { ob with cells := cs })) w' ∧ Good ρ A ρ (A.put b (some { ob with cells := cs })) := by
  by_cases hne : vs = []
  · subst hne
    simp only [concL, Option.some.injEq] at hv
    subst hv
    simp only [setL, Option.some.injEq] at hs
    subst hs
    obtain ⟨C, f, hB⟩ := hw.blk b ob L hb hL
    obtain ⟨g1, g2⟩ := hw.upd hb hro hL (ob' := { ob with cells := ob.cells }) w rfl rfl rfl rfl (fun _ _ => rfl) ⟨C, f, hB⟩
    exact ⟨w, rfl, g1, g2⟩
  · exact store_block hw hb hro hL hv h1 hs hfz hne
theorem appendA_run (hw : WR w0 ρ A w) {t u : TypeId} {s x v : CV} {A' : AW} (h : appendA P A t u s x = some (v, A')) {S X : Value} (hS : conc ρ s = some S) (hX : conc ρ x = some X) (ty : TypeId) (tys : List TypeId) :
    ∃ z w', (Builtin.append_ (t :: u :: tys).toArray ty #[S, X]).run P w = .ok z w' ∧ Out w0 ρ A v A' z w' := by
  unfold appendA at h
  have hh := cond_some h
  clear h
  obtain ⟨hu, h⟩ := hh
  split at h
  case h_2 => cases h
  rename_i e ht
  split at h
  case h_2 => cases h
  rename_i i hi
  split at h
  case h_2 => cases h
  rename_i m news hnews
  have hh := cond_some h
  clear h
  obtain ⟨h1, h⟩ := hh
  obtain ⟨h1, h0⟩ := andT h1
  rw [blt_iff] at h0
  split at h
  case h_2 => cases h
  rename_i zc hzc
  have hh := cond_some h
  clear h
  obtain ⟨hz1, h⟩ := hh
  rw [beqN_iff, lenN_eq] at hz1
  obtain ⟨xs, x1, x2, x3, x4, x5⟩ := newsA_run (P := P) hw hnews hX
  -- the zero value
  obtain ⟨z, hz, hzs⟩ : ∃ z : Value, i.zero = some z ∧ z.cells.size = i.size := by
    unfold zeroA at hzc
    rw [hi] at hzc
    simp only at hzc
    cases hz : i.zero with
    | none => simp [hz] at hzc
    | some z =>
      simp only [hz] at hzc
      have := concL_len (conc_cells (conc_ofV (ρ := ρ) hzc))
      simp at this
      exact ⟨z, rfl, by omega⟩
  split at h
  · -- nil
    simp only [conc, Option.some.injEq] at hS
    subst hS
    cases hm : Nat.beq m 0 with
    | true =>
      rw [hm] at h
      simp only [cond_true, Option.some.injEq, Prod.mk.injEq] at h
      obtain ⟨rfl, rfl⟩ := h
      have hm0 := (beqN_iff _ _).1 hm
      subst hm0
      have hx0 : xs = [] := by cases xs; rfl; simp at x2
      subst hx0
      refine ⟨.slice none 0 0, w, ?_, ρ, hw, Good.refl _ _, rfl⟩
      obtain ⟨d, hd, hdk⟩ := notInt_some hu
      simp [Builtin.append_, run_underlying ht, run_underlying hd, sizeOf, typeInfo, hi, x3, x4]
    | false =>
      rw [hm] at h
      simp only [cond_false] at h
      have hh := cond_some h
      clear h
      obtain ⟨h3, h⟩ := hh
      obtain ⟨h3, h4⟩ := andT h3
      rw [blt_iff] at h3 h4
      have hm0 : m ≠ 0 := fun e => by rw [← beqN_iff, hm] at e; cases e
      split at h
      · rename_i A2 hA2
        simp only [Option.some.injEq, Prod.mk.injEq] at h
        obtain ⟨rfl, rfl⟩ := h
        have hrun := append_grow (P := P) (w := w) (ty := ty) (tys := tys) (base := none) (n := 0) (c := 0) (olds := []) ht hu hi hz x3 (by simp [Builtin.firstCells]) x5 (by omega) (by simpa using h3) (by simpa using h4)
        have hout := grown_new hw (c := 0) hzs x1 x2 hA2
        simp only [Nat.zero_add] at hrun
        refine ⟨_, _, hrun, ?_⟩
        simpa using hout
      · cases h
  · -- a growable row
    rename_i b n k
    obtain ⟨L, hL, hcap, rfl⟩ := conc_sl hS
    split at h
    case h_2 => cases h
    rename_i ob hb
    have hh := cond_some h
    clear h
    obtain ⟨h3, h⟩ := hh
    obtain ⟨h3, hel⟩ := andT h3
    obtain ⟨h3, hn2⟩ := andT h3
    obtain ⟨h3, hn1⟩ := andT h3
    obtain ⟨hes, hfz⟩ := andT h3
    obtain ⟨hes, hro⟩ := andT hes
    simp only [Bool.not_eq_true'] at hro
    rw [beqN_iff] at hel hes
    rw [blt_iff] at hn1 hn2
    have hfz := Nat.le_of_ble_eq_true hfz
    split at h
    case h_2 => cases h
    rename_i old hold
    have hh := cond_some h
    clear h
    obtain ⟨hao, h⟩ := hh
    split at h
    case h_2 => cases h
    rename_i A2 hA2
    simp only [Option.some.injEq, Prod.mk.injEq] at h
    obtain ⟨rfl, rfl⟩ := h
    obtain ⟨C, f, hB⟩ := hw.blk b ob L hb hL
    have hLe : L.esz = i.size := by rw [hB.esz, hes]
    obtain ⟨olds, o1, o2, o3, o4⟩ := cells_run (P := P) hw hb hL hold
    obtain ⟨olds', o1', _, _, o4'⟩ := cells_run (P := P) hw.drew hb hL hold
    obtain rfl : olds = olds' := by rw [o1] at o1'; injection o1'
    have hcc := concL_append o1 x1
    obtain ⟨k1, k2⟩ := hw.kill hb hL
    have hlen : (olds ++ xs).length = (n + m) * i.size := by rw [List.length_append, o2, x2, Nat.add_mul]
    by_cases hroom : n + m ≤ L.cap - k
    · -- in its place
      have hkn : k * i.size + n * i.size + m * i.size ≤ L.cap * i.size := by
        rw [← Nat.add_mul, ← Nat.add_mul]; exact Nat.mul_le_mul_right _ (by omega)
      have hrm := hB.room
      rw [hLe] at hrm
      have hrun := storeCells_run (P := P) L.blk (L.sh + k * i.size + n * i.size) ob.el f xs 0 C w hB.heap (by omega) (fun j h2 h3 => by
        obtain ⟨q, rfl⟩ : ∃ q, j = L.sh + q := ⟨j - L.sh, by omega⟩
        rw [Nat.add_mul] at hfz
        exact hB.frozen hro (by omega) h3) (allOne_conc h1 x1)
      simp only [Nat.add_zero] at hrun
      have hres := append_room (P := P) (w := w) (ty := ty) (tys := tys) (b := ⟨L.blk, L.sh + k * L.esz, none⟩) (n := n) (c := L.cap - k) ht hu hi x3 x4 hroom (by rw [Addr.add_lit, hLe]; exact hrun)
      let C' : Array Value := (C.toList.take (L.sh + k * i.size + n * i.size) ++ xs ++ C.toList.drop (L.sh + k * i.size + n * i.size + xs.length)).toArray
      have hC' : C'.size = C.size := by simp [C']; omega
      have hget : ∀ j, C'[j]? = if L.sh + k * i.size + n * i.size ≤ j ∧ j < L.sh + k * i.size + n * i.size + xs.length then xs[j - (L.sh + k * i.size + n * i.size)]? else C[j]? := by
        intro j
        simp only [C', List.getElem?_toArray]
        by_cases h : j < L.sh + k * i.size + n * i.size
        · rw [if_neg (by omega), List.append_assoc, List.getElem?_append_left (by simp; omega), List.getElem?_take_of_lt h]; simp
        · by_cases h' : j < L.sh + k * i.size + n * i.size + xs.length
          · rw [if_pos (by omega), List.append_assoc, List.getElem?_append_right (by simp; omega), List.getElem?_append_left (by simp; omega)]
            congr 1
            simp; omega
          · rw [if_neg (by omega), List.getElem?_append_right (by simp; omega), List.getElem?_drop]
            simp
            congr 1
            omega
      have hfree : ∀ c oc M, (A.put b none).heap.get c = some oc → ρ c = some M → M.blk ≠ L.blk := by
        intro c oc M hc hM he
        obtain ⟨p1, _, p3⟩ := AW.put_get A b none
        have hcb : c ≠ b := fun e => by subst e; rw [p1] at hc; cases hc
        rw [p3 c hcb] at hc
        exact hcb (hw.inj b c ob oc L M hb hc hL hM hro he.symm).symm
      have hoff := k1.off (g := L.blk) (hB.base hro) hfree (w' := w.setRow L.blk C') (by simp) rfl rfl rfl (fun q hq => setRow_other w L.blk q C' hq)
      obtain ⟨v1, v2, v3, v4⟩ := hoff.virt hA2
      have hfree2 : ∀ c oc M, A2.heap.get c = some oc → ρ c = some M → M.blk ≠ L.blk := by
        intro c oc M hc hM
        obtain ⟨_, _, q4⟩ := AW.new_some hA2
        have : c ≠ (A.put b none).next := fun e => by subst e; rw [v4] at hM; cases hM
        rw [q4 c this] at hc
        exact hfree c oc M hc hM
      have hbind := v1.bind v3 v4 (L := ⟨L.blk, L.sh + k * i.size, L.cap - k, i.size⟩) (C := C') (f := f)
        ⟨fun _ => hB.base hro, setRow_heap w L.blk C C' ob.el f hB.heap, fun j v hj => by
          simp only at hj
          obtain ⟨x, e1, e2⟩ := concL_get hcc j v hj
          refine ⟨x, e1, ?_⟩
          show C'[L.sh + k * i.size + j]? = some x
          rw [hget]
          by_cases hjn : j < n * i.size
          · rw [if_neg (by omega)]
            rw [List.getElem?_append_left (by omega)] at e2
            have := o3 j x e2
            rw [Addr.add_lit, hB.cell?] at this
            exact this
          · have hjl := (List.getElem?_eq_some_iff.1 e2).1
            rw [List.length_append] at hjl
            rw [if_pos (by omega)]
            rw [List.getElem?_append_right (by omega)] at e2
            rw [show L.sh + k * i.size + j - (L.sh + k * i.size + n * i.size) = j - olds.length by omega]
            exact e2, by
          rw [hC']
          have := hB.froz hro
          intro _
          unfold Fz at this ⊢
          simp only at this ⊢
          rcases this with g | ⟨g1, g2, g3⟩ | ⟨g1, g2, g3⟩
          · exact .inl g
          · exact .inr (.inl ⟨g1, by omega, g3⟩)
          · exact .inr (.inr ⟨g1, g2, by omega⟩), rfl, by
          rw [hC']
          simp only
          have : (L.cap - k) * i.size = L.cap * i.size - k * i.size := Nat.sub_mul _ _ _
          omega, fun e => by simp only at e; omega⟩ hfree2
      refine ⟨_, _, hres, _, hbind, ?_, ?_⟩
      · exact k2.trans ⟨fun c hc => Env.set_other _ _ (fun e => by omega), v2.next, v2.keep⟩
      · have : (A.put b none).next = A.next := rfl
        rw [this]
        simp only [conc, Env.set_same]
        rw [if_pos (by omega)]
        simp [hLe]
    · -- it grows
      have hrun := append_grow (P := P) (w := w) (ty := ty) (tys := tys) (base := some ⟨L.blk, L.sh + k * L.esz, none⟩) (n := n) (c := L.cap - k) (olds := olds) ht hu hi hz x3 (by rw [hLe]; exact o4') x5 (by omega) hn1 hn2
      have hA3 : (A.put b none).new { cells := old ++ news, el := e, esz := i.size, fz := ob.fz - k * i.size, fb := ob.fb } = some A2 := by rw [← hel]; exact hA2
      obtain ⟨ρ', g1, g2, g3⟩ := grown_new k1 (c := L.cap - k) hzs hcc hlen hA3
      refine ⟨_, _, hrun, ρ', ?_, k2.trans g2, g3⟩
      simpa using g1
  · -- a row of a known capacity
    rename_i b o n c
    obtain ⟨L, hL, hcap, rfl⟩ := conc_se hS
    split at h
    case h_2 => cases h
    rename_i ob hb
    cases hroom : Nat.ble (n + m) c with
    | true =>
      rw [hroom] at h
      simp only [cond_true] at h
      have hroom := Nat.le_of_ble_eq_true hroom
      have hh := cond_some h
      clear h
      obtain ⟨hfz, h⟩ := hh
      obtain ⟨hfz, hro⟩ := andT hfz
      simp only [Bool.not_eq_true'] at hro
      have hfz := Nat.le_of_ble_eq_true hfz
      split at h
      case h_2 => cases h
      rename_i cs hcs
      simp only [Option.some.injEq, Prod.mk.injEq] at h
      obtain ⟨rfl, rfl⟩ := h
      obtain ⟨w', e1, e2, e3⟩ := store_block' (P := P) hw hb hro hL x1 h1 hcs hfz
      have hres := append_room (P := P) (w := w) (ty := ty) (tys := tys) (b := ⟨L.blk, L.sh + o, none⟩) (n := n) (c := c) ht hu hi x3 x4 hroom (by rw [Addr.add_lit, Nat.add_assoc]; exact e1)
      exact ⟨_, _, hres, ρ, e2, e3, by simp only [conc, hL]; rw [if_pos hroom]⟩
    | false =>
      rw [hroom] at h
      simp only [cond_false] at h
      have hroom : ¬ n + m ≤ c := fun e => by rw [← Nat.ble_eq, hroom] at e; cases e
      have hh := cond_some h
      clear h
      obtain ⟨h3, h⟩ := hh
      obtain ⟨h3, h4⟩ := andT h3
      rw [blt_iff] at h3 h4
      split at h
      case h_2 => cases h
      rename_i old hold
      have hh := cond_some h
      clear h
      obtain ⟨hao, h⟩ := hh
      split at h
      case h_2 => cases h
      rename_i A2 hA2
      simp only [Option.some.injEq, Prod.mk.injEq] at h
      obtain ⟨rfl, rfl⟩ := h
      obtain ⟨olds, o1, o2, o3, o4⟩ := cells_run (P := P) hw hb hL hold
      obtain ⟨olds', o1', _, _, o4'⟩ := cells_run (P := P) hw.drew hb hL hold
      obtain rfl : olds = olds' := by rw [o1] at o1'; injection o1'
      have hcc := concL_append o1 x1
      have hlen : (olds ++ xs).length = (n + m) * i.size := by rw [List.length_append, o2, x2, Nat.add_mul]
      have hrun := append_grow (P := P) (w := w) (ty := ty) (tys := tys) (base := some ⟨L.blk, L.sh + o, none⟩) (n := n) (c := c) (olds := olds) ht hu hi hz x3 o4' x5 (by omega) h3 h4
      obtain ⟨ρ', g1, g2, g3⟩ := grown_new hw (c := c) hzs hcc hlen hA2
      refine ⟨_, _, hrun, ρ', ?_, g2, g3⟩
      simpa using g1
  · cases h
end
end Go.Ce
