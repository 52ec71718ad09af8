/-
  The program's cursor and units.Place: the document's place. Conditions: the bytes lie in memory, the library's tables too.
-/
import Derived.Test.YtcfcagpcaclpkaaGreatDoorR31I
set_option maxRecDepth 100000
namespace Go.Proofs.R31
open Go Go.Ce Go.RowKit
theorem u170 : Tryz.prog.underlying 170 = some (.pointer 173) := by kernel_rfl
theorem s3 : sizeP Tryz.prog 3 = some 1 := by kernel_rfl
/-- The memory is as it was, but for one block that is rewritten. -/
structure Same1 (c : Nat) (A A' : AW) : Prop where
  next : A'.next = A.next
  same : ∀ d, d ≠ c → A'.heap.get d = A.heap.get d
theorem Same1.trans {c : Nat} {A B C : AW} (h : Same1 c A B) (h' : Same1 c B C) : Same1 c A C := ⟨h'.next.trans h.next, fun d hd => (h'.same d hd).trans (h.same d hd)⟩
theorem store_one {A : AW} {c : Nat} {cells cells' : List CV} {el : TypeId} {t : TypeId} (h : A.heap.get c = some ⟨cells, el, 0, 0, false, false⟩) (ht : sizeP Tryz.prog t = some 1) {o : Nat} {z : CV} (h1 : z.one = true) (hz : z.cells = [z]) (hs : setL cells o [z] = some cells') :
    ∃ A', storeA Tryz.prog A t c o z = some A' ∧ A'.heap.get c = some ⟨cells', el, 0, 0, false, false⟩ ∧ Same1 c A A' ∧ (A.Fresh → A'.Fresh) := by
  obtain ⟨p1, p2, p3⟩ := AW.put_get A c (some ⟨cells', el, 0, 0, false, false⟩)
  refine ⟨A.put c (some ⟨cells', el, 0, 0, false, false⟩), ?_, p1, ⟨p2, p3⟩, fun hA => hA.put (hA.lt h) _⟩
  have c1 : Nat.ble 0 o = true := by rw [Nat.ble_eq]; omega
  simp only [storeA, h, ht, hz, hs, lenN, allOne, h1, c1]
  rfl
/-- A cursor: its bytes, and where it stands. -/
structure Cur (A : AW) (c : Nat) (cv : CV) (l : List Nat) (i idx line col : Nat) : Prop where
  at_ : A.heap.get c = some ⟨[cv, .i .i64 (i : Int), .i .i64 (idx : Int), .i .i64 (line : Int), .i .i64 (col : Int)], 173, 0, 0, false, false⟩
  bs : Bs A cv l
  ne : slBlk cv ≠ some c
section
variable {w0 : World} {A : AW}
theorem cur_cell {c : Nat} {cs : List CV} (h : A.heap.get c = some ⟨cs, 173, 0, 0, false, false⟩) {o : Nat} {v : CV} {t : TypeId} (ht : aggP Tryz.prog t = some false) (hv : cs[o]? = some v) : loadA Tryz.prog A t c o = some v := load_cell ht (by rw [cellAt_of h]; exact hv)
/-- A copy of bytes. -/
theorem copy_ok {v : CV} {l : List Nat} (hb : Bs A v l) (hA : A.Fresh) (hlen : l.length < 1000000000000) :
    ∃ v' A', appendA Tryz.prog (A.push (AObj.mk [] 5 0 0 false false)) 22 22 (.se A.next 0 0 0) v = some (v', A') ∧ Ext' A A' ∧ A'.Fresh ∧ Bs A' v' l ∧ (∀ d, slBlk v' = some d → d < A'.next) := by
  obtain ⟨i, hi, hi1, hi2⟩ := i5
  have hb1 : Bs (A.push (AObj.mk [] 5 0 0 false false)) v l := hb.ext hA (Ext'.push _ _)
  have hlv := hb1.sl.len
  have hel := hb1.sl.el
  have hnews : newsA (A.push (AObj.mk [] 5 0 0 false false)) i.size v = some (l.length, l.map byteC) := by
    rw [hi1]
    cases v <;> simp only [slLen, reduceCtorEq, Option.some.injEq] at hlv
    case ns => simp only [elemsA, Option.some.injEq] at hel; simp only [newsA, ← hlv, ← hel]
    case so b k0 k => simp only [elemsA, Option.some.injEq] at hel; simp only [newsA, ← hlv, ← hel]
    case sl b n k => subst hlv; simp only [newsA, hel]
    case se b o n c => subst hlv; simp only [newsA, hel]
  have c1 : Nat.beq (lenN (CV.cells (.i .u8 0))) i.size = true := by rw [hi1]; rfl
  have c2 : Nat.blt 0 i.size = true := by rw [hi1]; rfl
  have c3 := allOne_bytes l
  by_cases hl : l.length = 0
  · obtain rfl : l = [] := List.length_eq_zero_iff.1 hl
    obtain ⟨p1, p2, p3⟩ := AW.put_get (A.push (AObj.mk [] 5 0 0 false false)) A.next (some (AObj.mk [] 5 0 0 false false))
    refine ⟨.se A.next 0 0 0, (A.push (AObj.mk [] 5 0 0 false false)).put A.next (some (AObj.mk [] 5 0 0 false false)), ?_, ⟨Nat.le_succ _, fun d hd => ?_⟩, (hA.push _).put (Nat.lt_succ_self _) _, ⟨⟨?_, rfl, rfl⟩, hb.lt⟩, fun d hd => ?_⟩
    · simp only [appendA, n22, cond_true, u22, hi, hnews, c3, c2, Bool.and_self, z5, c1, push_same, List.length_nil, Nat.zero_mul, Nat.add_zero]
      rfl
    · rw [p3 d (by omega), push_other _ _ (by omega)]
    · simp only [elemsA, cellsA, p1]; rfl
    · simp only [slBlk, Option.some.injEq] at hd; subst hd; exact Nat.lt_succ_self _
  · have c4 : Nat.ble (0 + l.length) 0 = false := by rw [Bool.eq_false_iff]; intro e; rw [Nat.ble_eq] at e; omega
    have c5 : Nat.blt ((0 + l.length) * i.bytes) 1099511627776 = true := (blt_iff _ _).2 (by rw [hi2]; omega)
    have c6 : Nat.blt (0 + l.length) 1099511627776 = true := (blt_iff _ _).2 (by omega)
    have hA1 := hA.push (AObj.mk [] 5 0 0 false false)
    refine ⟨.sl (A.next + 1) (0 + l.length) 0, (A.push (AObj.mk [] 5 0 0 false false)).push ⟨[] ++ l.map byteC, 5, i.size, 0, false, false⟩, ?_, (Ext'.push _ _).trans (Ext'.push _ _), hA1.push _, ⟨?_, hb.lt⟩, fun d hd => ?_⟩
    · simp only [appendA, n22, cond_true, u22, hi, hnews, c3, c2, Bool.and_self, z5, c1, push_same, c4, cond_false, c5, c6, Nat.zero_mul, AW.new_push]
      rfl
    · have ho : Own ((A.push (AObj.mk [] 5 0 0 false false)).push ⟨[] ++ l.map byteC, 5, i.size, 0, false, false⟩) 5 1 (.sl (A.next + 1) (0 + l.length) 0) (0 + l.length) (l.map byteC) (some (A.next + 1)) :=
        .row (fz := 0) (by simp only [hi1]; exact push_same _ _) (by omega) (by simp) (by omega)
      have := ho.sl
      rw [Nat.zero_add] at this ⊢
      exact this
    · simp only [slBlk, Option.some.injEq] at hd; subst hd; exact Nat.lt_succ_self _
def fieldsOf (P : Program) (t : TypeId) : Option (List (Nat × Nat)) := match P.underlying t with
  | some (.struct fs) => placesOf P fs.toList
  | _ => none
theorem struct_of {P : Program} {t : TypeId} {l : List (Nat × Nat)} (h : fieldsOf P t = some l) : ∃ fs, P.underlying t = some (.struct fs) ∧ placesOf P fs.toList = some l := by
  unfold fieldsOf at h
  split at h
  · rename_i fs hf; exact ⟨fs, hf, h⟩
  · cases h
theorem st173 : fieldsOf Tryz.prog 173 = some [(0, 1), (1, 1), (2, 1), (3, 1), (4, 1)] := by kernel_rfl
/-- units.New -/
theorem new_run {v : CV} {l : List Nat} (hb : Bs A v l) (hA : A.Fresh) (hlen : l.length < 1000000000000) :
    F Tryz.prog w0 82 [v] A (fun r A' => ∃ c cv, r = .p c 0 ∧ A.next ≤ c ∧ Ext' A A' ∧ A'.Fresh ∧ Cur A' c cv l 0 0 1 0) := by
  obtain ⟨v', A2, g1, g2, g3, g4, g5⟩ := copy_ok hb hA hlen
  obtain ⟨q1, q2⟩ := g4.sl.one
  refine F.code 8 (by kernel_rfl) (v82 ⟨rfl, trivial⟩ ⟨[], rfl, v', A2, g1, [v', .i .i64 0, .i .i64 0, .i .i64 1, .i .i64 0], ?_, ?_⟩)
  · have e1 : zeroA Tryz.prog 173 = some (.a [.ns, .i .i64 0, .i .i64 0, .i .i64 0, .i .i64 0]) := by kernel_rfl
    obtain ⟨fs, e2, e3⟩ := struct_of st173
    simp only [buildV, e1, e2, e3, fillV, getN, q2]
    rfl
  · exact ⟨_, v', rfl, g2.next, g2.trans (Ext'.push _ _), g3.push _, push_same _ _, g4.ext g3 (Ext'.push _ _), fun e => by have := g5 _ e; omega⟩
/-- units.(*Cursor).Take, within the bytes. -/
theorem take_run (T : Tabs w0) {c : Nat} {cv : CV} {l : List Nat} {i idx line col : Nat} (h : Cur A c cv l i idx line col) (hA : A.Fresh) (hlen : l.length < 1000000000) (hi : i < l.length) (h1 : idx < 2000000000) (h2 : line < 2000000000) (h3 : col < 2000000000) :
    F Tryz.prog w0 83 [.p c 0] A (fun r A' => (∃ x y, r = .t [.i .i32 x, .i .i64 y]) ∧ Same1 c A A' ∧ A'.Fresh ∧ Cur A' c cv l (i + (unitAt l i).2) (idx + 1) (if (unitAt l i).1 = 10 then line + 1 else line) (if (unitAt l i).1 = 10 then 0 else col + 1)) := by
  obtain ⟨hc, hb, hne⟩ := h
  obtain ⟨q1, q2, q3, q4⟩ := unitAt_n l hb.lt i hi
  refine F.code 57 (by kernel_rfl) (v83 ⟨rfl, trivial⟩ ⟨false, by simp only [binA, eqA, u170], vcIf_false ⟨cv, cur_cell hc a22 rfl, _, cur_cell hc a3 rfl, (at_run T hb i hi hlen).mono ?_⟩⟩)
  rintro r A1 ⟨rfl, rfl⟩
  generalize unitAt l i = u at *
  have w1 : IntKind.i64.wrap ((i : Int) + (u.2 : Int)) = ((i + u.2 : Nat) : Int) := by rw [wrap64 (by omega) (by omega)]; simp
  have w2 : IntKind.i64.wrap ((idx : Int) + 1) = ((idx + 1 : Nat) : Int) := by rw [wrap64 (by omega) (by omega)]; simp
  have w3 : IntKind.i64.wrap ((line : Int) + 1) = ((line + 1 : Nat) : Int) := by rw [wrap64 (by omega) (by omega)]; simp
  have w4 : IntKind.i64.wrap ((col : Int) + 1) = ((col + 1 : Nat) : Int) := by rw [wrap64 (by omega) (by omega)]; simp
  obtain ⟨B1, e1, c1, m1, f1⟩ := store_one hc s3 (o := 0 + 1) (z := .i .i64 ((i + u.2 : Nat) : Int)) rfl rfl rfl
  obtain ⟨B2, e2, c2, m2, f2⟩ := store_one c1 s3 (o := 0 + 2) (z := .i .i64 ((idx + 1 : Nat) : Int)) rfl rfl rfl
  obtain ⟨B3, e3, c3, m3, f3⟩ := store_one c2 s3 (o := 0 + 4) (z := .i .i64 ((col + 1 : Nat) : Int)) rfl rfl rfl
  obtain ⟨B4, e4, c4, m4, f4⟩ := store_one c3 s3 (o := 0 + 3) (z := .i .i64 ((line + 1 : Nat) : Int)) rfl rfl rfl
  obtain ⟨B5, e5, c5, m5, f5⟩ := store_one c4 s3 (o := 0 + 4) (z := .i .i64 ((0 : Nat) : Int)) rfl rfl rfl
  have keep : ∀ B, Same1 c A1 B → Bs B cv l := fun B m => ⟨hb.sl.keep fun d ob hd hg => by rw [m.same d (fun e => hne (e ▸ hd))]; exact hg, hb.lt⟩
  refine ⟨_, _, rfl, rfl, vcIf.decide (fun h => by omega) fun _ => ⟨_, cur_cell hc a3 rfl, _, w1.symm, B1, e1, _, cur_cell c1 a3 rfl, _, w2.symm, B2, e2, _, cur_cell c2 a3 rfl, _, w4.symm, B3, e3, vcIf.decide (fun h => ?_) fun h => ?_⟩⟩
  · have hu : u.1 = 10 := by omega
    rw [if_pos hu, if_pos hu]
    have m := (((m1.trans m2).trans m3).trans m4).trans m5
    exact ⟨_, cur_cell c3 a3 rfl, _, w3.symm, B4, e4, B5, e5, ⟨_, _, rfl⟩, m, f5 (f4 (f3 (f2 (f1 hA)))), c5, keep _ m, hne⟩
  · have hu : ¬ u.1 = 10 := by omega
    rw [if_neg hu, if_neg hu]
    have m := (m1.trans m2).trans m3
    exact ⟨⟨_, _, rfl⟩, m, f3 (f2 (f1 hA)), c3, keep _ m, hne⟩
/-- ████ units.Place: the document's. -/
theorem place_run (T : Tabs w0) {v : CV} {l : List Nat} (hb : Bs A v l) (hA : A.Fresh) (hlen : l.length < 1000000000) (x : Int) :
    F Tryz.prog w0 51 [v, .i .i64 x] A (fun r A' => A' = A ∧ r = .t [.i .i64 ((placeAt l x).1 : Int), .i .i64 ((placeAt l x).2 : Int)]) := by
  have hcl := clampN_le l.length x
  refine F.forget (F.code 29 (by kernel_rfl) (v51 ⟨rfl, rfl, trivial⟩ ((new_run hb hA (by omega)).mono ?_)))
  rintro r A1 ⟨c, cv, rfl, hcn, hx, hA1, hcur⟩
  refine ⟨_, rfl, fun fr0 f0 => ?_⟩
  refine WF.for_ (fun m fr A' => ∃ (i idx line col : Nat), m = l.length - i ∧ i ≤ l.length ∧ idx ≤ i ∧ line ≤ 1 + i ∧ col ≤ i ∧ Ext' A A' ∧ A'.Fresh ∧ Cur A' c cv l i idx line col ∧ placeOf (unitsFrom l i) (clampN l.length x) (line, col) = placeAt l x ∧ Fr fr [(0, v), (1, .i .i64 x), (6, .p c 0)])
    (m := l.length) ⟨0, 0, 1, 0, rfl, by omega, by omega, by omega, by omega, hx, hA1, hcur, rfl, f0⟩ ?_
  rintro m fr1 A2 ⟨i, idx, line, col, rfl, hi, hidx, hline, hcol, hx2, hA2, hcur2, hp, hf⟩
  refine v51_11000 hf ⟨_, cur_cell hcur2.at_ a3 rfl, _, (hb.ext hA hx2).sl.len_ok u22, ?_⟩
  rw [clampN_eq]
  refine vcIf.decide (fun h => ?_) (fun h fr2 h2 => ?_)
  · have hil : i < l.length := by omega
    obtain ⟨q1, q2, q3, q4⟩ := unitAt_n l hb.lt i hil
    refine (take_run T hcur2 hA2 hlen hil (by omega) (by omega) (by omega)).mono ?_
    rintro r A3 ⟨⟨x1, y1, rfl⟩, hm, hA3, hcur3⟩
    refine ⟨_, _, rfl, fun fr3 h3 => ⟨_, by omega, i + (unitAt l i).2, idx + 1, _, _, rfl, q2, by omega, ?_, ?_, ⟨by rw [hm.next]; exact hx2.next, fun d hd => ?_⟩, hA3, hcur3, ?_, h3⟩⟩
    · split <;> omega
    · split <;> omega
    · rw [hm.same d (by omega), hx2.same d hd]
    · rw [unitsFrom_step hb.lt hil] at hp
      simp only [placeOf] at hp
      rw [if_neg (by omega)] at hp
      rw [← hp]
      split <;> rfl
  · refine v51_111 h2 ?_
    have hp' : (line, col) = placeAt l x := by
      rw [← hp]
      by_cases hil : i < l.length
      · rw [unitsFrom_step hb.lt hil]
        simp only [placeOf]
        rw [if_pos (by omega)]
      · rw [unitsFrom_end hil]; rfl
    rw [← hp']
    refine ⟨_, cur_cell hcur2.at_ a3 rfl, _, cur_cell hcur2.at_ a3 rfl, ⟨_, cur_cell hcur2.at_ a3 rfl, rfl⟩, rfl, rfl, rfl, hx2, rfl, rfl⟩
/-- ████ report.place -/
theorem placeText_run (T : Tabs w0) {v : CV} {l : List Nat} (hb : Bs A v l) (hA : A.Fresh) (hlen : l.length < 1000000000) (x : Int) :
    F Tryz.prog w0 14 [v, .i .i64 x] A (fun r A' => A' = A ∧ r = .s (placeText l x)) := by
  obtain ⟨b1, b2⟩ := placeAt_lt hb.lt hlen x
  refine F.code 19 (by kernel_rfl) (v14 ⟨rfl, rfl, trivial⟩ ((place_run T hb hA hlen x).mono ?_))
  rintro r A' ⟨rfl, rfl⟩
  refine ⟨_, _, rfl, (itoa_run T _ (by omega) (by omega)).mono ?_⟩
  rintro r A' ⟨rfl, rfl⟩
  have l1 := itoaN_len (n := ((placeAt l x).1 : Int)) (by omega) (by omega)
  have l2 := itoaN_len (n := ((placeAt l x).2 : Int)) (by omega) (by omega)
  refine ⟨_, rfl, by omega, (itoa_run T _ (by omega) (by omega)).mono ?_⟩
  rintro r A' ⟨rfl, rfl⟩
  exact ⟨_, rfl, by simp; omega, rfl, rfl⟩
/-- ████ report.cut -/
theorem cut_run {v : CV} {l : List Nat} (hb : Bs A v l) (x y : Int) :
    F Tryz.prog w0 16 [v, .i .i64 x, .i .i64 y] A (fun r A' => A' = A ∧ r = .s (cutN l x y)) := by
  have c1 := clampN_le l.length x
  have c2 := clampN_le l.length (max y (clampN l.length x : Int))
  have c3 : clampN l.length x ≤ clampN l.length (max y (clampN l.length x : Int)) := by unfold clampN at *; omega
  have e : min (max y (clampN l.length x : Int)) (Int.ofNat l.length) = (clampN l.length (max y (clampN l.length x : Int)) : Int) := by
    have h0 := clampN_eq l.length (max y (clampN l.length x : Int))
    rw [← h0, show max (max y (clampN l.length x : Int)) 0 = max y (clampN l.length x : Int) by omega]
  refine F.code 22 (by kernel_rfl) (v16 ⟨rfl, rfl, rfl, trivial⟩ ⟨_, hb.sl.len_ok u22, _, hb.sl.len_ok u22, ?_⟩)
  rw [clampN_eq, e]
  obtain ⟨v', g1, g2⟩ := hb.slice (P := Tryz.prog) (a := some (.i .i64 (clampN l.length x : Int))) (u := some (.i .i64 (clampN l.length (max y (clampN l.length x : Int)) : Int))) u22 s5 rfl rfl c3 c2
  exact ⟨v', g1, _, g2.conv u22 u5 u9, rfl, rfl⟩
end
end Go.Proofs.R31
