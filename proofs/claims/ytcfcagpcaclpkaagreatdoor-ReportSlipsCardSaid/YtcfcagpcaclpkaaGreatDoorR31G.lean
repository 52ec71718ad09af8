/-
  strings.Builder: what its methods do to the memory. Conditions: a builder lies there.
-/
import Derived.Test.YtcfcagpcaclpkaaGreatDoorR31F
set_option maxRecDepth 100000
namespace Go.Proofs.R31
open Go Go.Ce
theorem u58 : Tryz.prog.underlying 58 = some (.pointer 60) := by kernel_rfl
theorem u168 : Tryz.prog.underlying 168 = some .unsafePointer := by kernel_rfl
theorem u115 : Tryz.prog.underlying 115 = some (.pointer 5) := by kernel_rfl
theorem a58 : aggP Tryz.prog 58 = some false := by kernel_rfl
theorem a22 : aggP Tryz.prog 22 = some false := by kernel_rfl
theorem s60 : sizeP Tryz.prog 60 = some 2 := by kernel_rfl
theorem s58 : sizeP Tryz.prog 58 = some 1 := by kernel_rfl
theorem s22 : sizeP Tryz.prog 22 = some 1 := by kernel_rfl
theorem i5 : ∃ i, Tryz.prog.info? 5 = some i ∧ i.size = 1 ∧ i.bytes = 1 := info_of (by kernel_rfl)
theorem z5 : zeroA Tryz.prog 5 = some (.i .u8 0) := by kernel_rfl
theorem n22 : notInt (Tryz.prog.underlying 22) = true := by kernel_rfl
theorem n9 : notInt (Tryz.prog.underlying 9) = true := by kernel_rfl

/-- A builder: where its row lies, and what it holds. -/
structure Bld (A : AW) (b : Nat) (br : Option Nat) (l : List Nat) : Prop where
  ex : ∃ x v, A.heap.get b = some ⟨[x, v], 60, 0, 0, false, false⟩ ∧ (x = .np ∨ x = .p b 0) ∧ Own A 5 1 v l.length (l.map byteC) br
  ne : br ≠ some b
  lt : Byt l
/-- The memory is as it was, but for a builder and its row. -/
structure BW (A : AW) (b : Nat) (br : Option Nat) (A' : AW) (br' : Option Nat) : Prop where
  next : A.next ≤ A'.next
  same : ∀ d, d < A.next → d ≠ b → br ≠ some d → A'.heap.get d = A.heap.get d
  row : br' = br ∨ ∃ d, br' = some d ∧ A.next ≤ d
theorem BW.refl (A : AW) (b : Nat) (br : Option Nat) : BW A b br A br := ⟨Nat.le_refl _, fun _ _ _ _ => rfl, .inl rfl⟩
theorem BW.trans {A B C : AW} {b : Nat} {br br' br'' : Option Nat} (h : BW A b br B br') (h' : BW B b br' C br'') : BW A b br C br'' := by
  refine ⟨Nat.le_trans h.next h'.next, fun d hd h1 h2 => ?_, ?_⟩
  · rw [h'.same d (Nat.lt_of_lt_of_le hd h.next) h1 (fun e => ?_), h.same d hd h1 h2]
    rcases h.row with hr | ⟨d', hr, hd'⟩
    · exact h2 (hr ▸ e)
    · rw [hr] at e; injection e with e; omega
  · rcases h'.row with hr | ⟨d', hr, hd'⟩
    · rw [hr]; exact h.row
    · exact .inr ⟨d', hr, Nat.le_trans h.next hd'⟩
/-- What lay there before the builder did lies there still. -/
theorem BW.ext {A A' A0 : AW} {b : Nat} {br br' : Option Nat} (h : BW A b br A' br') (hx : Ext' A0 A) (hb : A0.next ≤ b) (hr : ∀ d, br = some d → A0.next ≤ d) : Ext' A0 A' ∧ ∀ d, br' = some d → A0.next ≤ d := by
  refine ⟨⟨Nat.le_trans hx.next h.next, fun d hd => ?_⟩, fun d hd => ?_⟩
  · rw [h.same d (Nat.lt_of_lt_of_le hd hx.next) (by omega) (fun e => by have := hr d e; omega), hx.same d hd]
  · rcases h.row with e | ⟨d', e, hd'⟩
    · exact hr d (e ▸ hd)
    · rw [hd] at e; injection e with e; have := hx.next; omega
theorem BW.get {A A' : AW} {b : Nat} {br br' : Option Nat} (h : BW A b br A' br') (hA : A.Fresh) {d : Nat} {ob : AObj} (hd : A.heap.get d = some ob) (h1 : d ≠ b) (h2 : br ≠ some d) : A'.heap.get d = some ob := by rw [h.same d (hA.lt hd) h1 h2]; exact hd
/-- A builder stands through what lies elsewhere. -/
theorem Bld.keep {A A' : AW} {b : Nat} {br : Option Nat} {l : List Nat} (h : Bld A b br l) (hk : ∀ d ob, (d = b ∨ br = some d) → A.heap.get d = some ob → A'.heap.get d = some ob) : Bld A' b br l := by
  obtain ⟨⟨x, v, h1, h2, h3⟩, h4, h5⟩ := h
  exact ⟨⟨x, v, hk _ _ (.inl rfl) h1, h2, h3.keep fun d ob hd hg => hk d ob (.inr hd) hg⟩, h4, h5⟩
theorem Bld.ext {A A' : AW} {b : Nat} {br : Option Nat} {l : List Nat} (h : Bld A b br l) (hA : A.Fresh) (hx : Ext' A A') : Bld A' b br l := h.keep fun _ _ _ hg => hx.get hA hg
theorem Bld.at {A : AW} {b : Nat} {br : Option Nat} {l : List Nat} (h : Bld A b br l) (hA : A.Fresh) : b < A.next := by
  obtain ⟨⟨x, v, h1, h2, h3⟩, h4, h5⟩ := h
  exact hA.lt h1
theorem Bld.new (A : AW) : Bld (A.push ⟨[.np, .ns], 60, 0, 0, false, false⟩) A.next none [] := ⟨⟨.np, .ns, push_same _ _, .inl rfl, .nil⟩, by simp, fun _ h => by cases h⟩
/-- One cell of a builder is written. -/
theorem bld_store {A : AW} {b : Nat} {x y : CV} (h : A.heap.get b = some ⟨[x, y], 60, 0, 0, false, false⟩) {t : TypeId} (ht : sizeP Tryz.prog t = some 1) {z : CV} (h1 : z.one = true) (hz : z.cells = [z]) :
    storeA Tryz.prog A t b (0 + 1) z = some (A.put b (some ⟨[x, z], 60, 0, 0, false, false⟩)) ∧ storeA Tryz.prog A t b (0 + 0) z = some (A.put b (some ⟨[z, y], 60, 0, 0, false, false⟩)) := by
  constructor
  all_goals
    simp only [storeA, h, ht, hz, lenN, allOne, h1]
    rfl
section
variable {w0 : World} {A : AW}
theorem own_one {A : AW} {e size : Nat} {v : CV} {n : Nat} {cs : List CV} {b : Option Nat} (h : Own A e size v n cs b) : v.one = true ∧ v.cells = [v] := h.sl.one
theorem vcIf_true {p q : Prop} (h : p) : vcIf true p q := h
theorem vcIf_false {p q : Prop} (h : q) : vcIf false p q := h
/-- strings.(*Builder).copyCheck -/
theorem copyCheck_run {b : Nat} {br : Option Nat} {l : List Nat} (h : Bld A b br l) (hA : A.Fresh) :
    F Tryz.prog w0 50 [.p b 0] A (fun r A' => r = .t [] ∧ A'.Fresh ∧ A'.next = A.next ∧ Bld A' b br l ∧ BW A b br A' br) := by
  obtain ⟨⟨x, v, h1, h2, h3⟩, h4, h5⟩ := h
  have hlt := hA.lt h1
  have hl : loadA Tryz.prog A 58 b (0 + 0) = some x := load_cell a58 (by rw [cellAt_of h1]; rfl)
  refine F.code 20 (by kernel_rfl) (v50 ⟨rfl, trivial⟩ ⟨x, hl, ?_⟩)
  rcases h2 with rfl | rfl
  · refine ⟨true, by simp only [binA, eqA, u58], ?_⟩
    refine vcIf_true ?_
    obtain ⟨p1, p2, p3⟩ := AW.put_get A b (some ⟨[.p b 0, v], 60, 0, 0, false, false⟩)
    refine ⟨.p b 0, by simp only [convA, u58, u168, s60, h1]; rfl, .p b 0, rfl, .p b 0, by simp only [convA, u58, u168, s60, h1]; rfl, _, (bld_store h1 s58 rfl rfl).2, rfl, hA.put hlt _, p2, ⟨⟨_, v, p1, .inr rfl, h3.keep fun d ob hd hg => ?_⟩, h4, h5⟩, ⟨Nat.le_of_eq p2.symm, fun d _ hd _ => p3 d hd, .inl rfl⟩⟩
    rw [p3 d (fun e => h4 (e ▸ hd))]; exact hg
  · have hb : Nat.beq b b = true := Nat.beq_refl b
    refine ⟨false, by simp only [binA, eqA, u58], ?_⟩
    refine vcIf_false ?_
    refine ⟨.p b 0, hl, false, by simp only [binA, eqA, u58, s60, hb]; rfl, ?_⟩
    refine vcIf_false ?_
    exact ⟨rfl, hA, rfl, ⟨⟨_, v, h1, .inr rfl, h3⟩, h4, h5⟩, BW.refl _ _ _⟩
theorem allOne_bytes (l : List Nat) : allOne (l.map byteC) = true := by
  induction l with
  | nil => rfl
  | cons m l ih => simp only [List.map_cons, byteC, allOne, CV.one, ih, Bool.and_self]
/-- Bytes are appended to a builder's row. -/
theorem bld_append {A1 : AW} (hA : A.Fresh) {b : Nat} {br : Option Nat} {l s : List Nat} (h : Bld A b br l) (hs : Byt s) (hlen : l.length + s.length < 1000000000000) (u : TypeId) (hu : notInt (Tryz.prog.underlying u) = true)
    (hx : Ext' A A1) (hA1 : A1.Fresh) {x : CV} (hn : newsA A1 1 x = some (s.length, s.map byteC)) :
    ∃ v, loadA Tryz.prog A 22 b (0 + 1) = some v ∧ ∃ v' A2, appendA Tryz.prog A1 22 u v x = some (v', A2) ∧ ∃ A3, storeA Tryz.prog A2 22 b (0 + 1) v' = some A3 ∧ A3.Fresh ∧ ∃ br', Bld A3 b br' (l ++ s) ∧ BW A b br A3 br' := by
  obtain ⟨⟨y, v, h1, h2, h3⟩, h4, h5⟩ := h
  obtain ⟨i, hi, hi1, hi2⟩ := i5
  have hlt := hA.lt h1
  refine ⟨v, load_cell a22 (by rw [cellAt_of h1]; rfl), ?_⟩
  have ho : Own A1 5 i.size v l.length (l.map byteC) br := by rw [hi1]; exact h3.keep fun d ob _ hg => hx.get hA hg
  obtain ⟨v', A2, br', g1, g2, g3, g4, g5⟩ := append_own (P := Tryz.prog) (t := 22) (u := u) (i := i) (x := x) (m := s.length) (news := s.map byteC) u22 hu hi z5 (by rw [hi1]; rfl) (by omega) ho (allOne_bytes l)
    (by rw [hi1]; exact hn) (by rw [hi1]; simp) (allOne_bytes s) hA1 (by rw [hi2]; omega) (by omega)
  have hb2 : A2.heap.get b = some ⟨[y, v], 60, 0, 0, false, false⟩ := g3.get hA1 (hx.get hA h1) h4
  have hne : br' ≠ some b := by
    rcases g5 with e | ⟨d, e, hd⟩
    · rw [e]; exact h4
    · rw [e]; intro e'; injection e' with e'; have := hx.next; omega
  obtain ⟨c1, c2⟩ := own_one g2
  obtain ⟨p1, p2, p3⟩ := AW.put_get A2 b (some ⟨[y, v'], 60, 0, 0, false, false⟩)
  have hn2 : A.next ≤ A2.next := Nat.le_trans hx.next g3.next
  refine ⟨v', A2, g1, _, (bld_store hb2 s22 c1 c2).1, g4.put (Nat.lt_of_lt_of_le hlt hn2) _, br', ⟨⟨y, v', p1, h2, ?_⟩, hne, ?_⟩, ⟨by rw [p2]; exact hn2, fun d hd hd1 hd2 => ?_, ?_⟩⟩
  · rw [hi1] at g2
    rw [List.length_append, List.map_append]
    exact g2.keep fun d ob hd hg => by rw [p3 d (fun e => hne (e ▸ hd))]; exact hg
  · intro m hm
    rcases List.mem_append.1 hm with hm | hm
    · exact h5 m hm
    · exact hs m hm
  · rw [p3 d hd1, g3.same d (Nat.lt_of_lt_of_le hd hx.next) hd2, hx.same d hd]
  · rcases g5 with e | ⟨d, e, hd⟩
    · exact .inl e
    · exact .inr ⟨d, e, Nat.le_trans hx.next hd⟩
/-- ████ strings.(*Builder).WriteString -/
theorem writeString_run {b : Nat} {br : Option Nat} {l s : List Nat} (h : Bld A b br l) (hA : A.Fresh) (hs : Byt s) (hlen : l.length + s.length < 1000000000000) :
    F Tryz.prog w0 13 [.p b 0, .s s] A (fun r A' => (∃ x v, r = .t [.i .i64 x, v]) ∧ A'.Fresh ∧ ∃ br', Bld A' b br' (l ++ s) ∧ BW A b br A' br') := by
  refine F.code 19 (by kernel_rfl) (v13 ⟨rfl, rfl, trivial⟩ ((copyCheck_run h hA).mono ?_))
  rintro r A1 ⟨rfl, hA1, _, hb, hw⟩
  obtain ⟨v, e1, v', A2, e2, A3, e3, g1, br', g2, g3⟩ := bld_append (A1 := A1) hA1 hb hs hlen 9 n9 (Ext'.refl _) hA1 (x := .s s) (by simp only [newsA, Nat.beq_refl, cond_true, lenN_eq]; rfl)
  exact ⟨rfl, v, e1, v', A2, e2, A3, e3, _, rfl, ⟨_, _, rfl⟩, g1, br', g2, hw.trans g3⟩
/-- ████ strings.(*Builder).WriteByte -/
theorem writeByte_run {b : Nat} {br : Option Nat} {l : List Nat} {m : Nat} (h : Bld A b br l) (hA : A.Fresh) (hm : m < 256) (hlen : l.length + 1 < 1000000000000) :
    F Tryz.prog w0 18 [.p b 0, .i .u8 (m : Int)] A (fun _ A' => A'.Fresh ∧ ∃ br', Bld A' b br' (l ++ [m]) ∧ BW A b br A' br') := by
  refine F.code 17 (by kernel_rfl) (v18 ⟨rfl, rfl, trivial⟩ ((copyCheck_run h hA).mono ?_))
  rintro r A1 ⟨rfl, hA1, _, hb, hw⟩
  obtain ⟨v, e1, v', A2, e2, A3, e3, g1, br', g2, g3⟩ := bld_append (A1 := A1.push ⟨[byteC m], 5, 0, 0, false, false⟩) hA1 hb (s := [m]) (by intro x hx; simp at hx; omega) hlen 22 n22 (Ext'.push _ _) (hA1.push _) (x := .se A1.next 0 1 1)
    (by simp only [newsA, elemsA, cellsA, push_same]; rfl)
  exact ⟨rfl, v, e1, [byteC m], rfl, v', A2, e2, A3, e3, g1, br', g2, hw.trans g3⟩
/-- ████ strings.(*Builder).String -/
theorem string_run {b : Nat} {br : Option Nat} {l : List Nat} (h : Bld A b br l) (hA : A.Fresh) (hlen : l.length < 1000000000000) :
    F Tryz.prog w0 19 [.p b 0] A (fun r A' => r = .s l ∧ A'.Fresh ∧ BW A b br A' br) := by
  obtain ⟨⟨x, v, h1, h2, h3⟩, h4, h5⟩ := h
  have hlt := hA.lt h1
  have hl : loadA Tryz.prog A 22 b (0 + 1) = some v := load_cell a22 (by rw [cellAt_of h1]; rfl)
  have hlen' := h3.sl.len_ok (P := Tryz.prog) u22
  refine F.code 14 (by kernel_rfl) (v19 ⟨rfl, trivial⟩ ⟨v, hl, ?_⟩)
  generalize hn : l.length = n at *
  generalize hc : l.map byteC = cs at *
  cases h3 with
  | nil =>
    obtain rfl : l = [] := List.length_eq_zero_iff.1 hn
    exact ⟨.np, rfl, .ns, hl, _, hlen', [], A, rfl, rfl, hA, BW.refl _ _ _⟩
  | @row d n cs fz hr hf hcl hp =>
    have c0 : Nat.beq n 0 = false := by rw [Bool.eq_false_iff]; exact fun e => by have := (beqN_iff _ _).1 e; omega
    have c1 : Nat.blt n 1099511627776 = true := (blt_iff _ _).2 (by omega)
    have c2 : subN (l.map byteC) 0 n = some (l.map byteC) := by
      have := subN_of (l := l.map byteC) (r := l.map byteC) (o := 0) (fun j _ => by rw [Nat.zero_add])
      rw [List.length_map, hn] at this
      exact this
    have c3 := bytesA_of h5
    rw [hc] at c2 c3
    have hd := hA.lt hr
    obtain ⟨p1, p2, p3⟩ := AW.put_get A d (some ⟨cs, 5, 1, cond (Nat.ble fz (0 + n)) (0 + n) fz, false, false⟩)
    refine ⟨.p d 0, by simp only [builtinV, c0]; rfl, .sl d n 0, hl, _, hlen', l, _, ?_, rfl, hA.put hd _, ⟨Nat.le_of_eq p2.symm, fun c hc h6 h7 => p3 c (fun e => h7 (by rw [e])), .inl rfl⟩⟩
    have c4 : Nat.beq 5 5 = true := rfl
    simp only [usA, c0, cond_false, u115, hr, u5, s5, c1, c4, c2, c3, Bool.and_self, Bool.not_false, cond_true]
end
end Go.Proofs.R31
