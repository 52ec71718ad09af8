/-
  A unit's bytes are appended to a row, and written to a builder. Conditions: the row is the call's own.
-/
import Derived.Test.YtcfcagpcaclpkaaGreatDoorR31G
set_option maxRecDepth 100000
namespace Go.Proofs.R31
open Go Go.Ce
/-! ### A unit's bytes -/
theorem valid_lo {m : Nat} (h : m < 55296) : Utf8.valid (m : Int) = true := by simp [Utf8.valid]; omega
theorem valid_hi {m : Nat} (h : 57344 ≤ m) (h2 : m ≤ 1114111) : Utf8.valid (m : Int) = true := by simp [Utf8.valid]; omega
theorem valid_no {m : Nat} (h : 55296 ≤ m) (h2 : m < 57344) : Utf8.valid (m : Int) = false := by simp [Utf8.valid]; omega
theorem encL_one {m : Nat} (h : m < 128) : encL (m : Int) = [m] := by
  unfold encL Utf8.encode
  simp only [valid_lo (show m < 55296 by omega), if_true, Int.toNat_natCast, h, List.map_cons, List.map_nil, UInt8.toNat_ofNat']
  simp; omega
theorem encL_two {m : Nat} (h : 128 ≤ m) (h2 : m < 2048) : encL (m : Int) = [192 + m / 64, 128 + m % 64] := by
  have g1 : ¬ m < 128 := by omega
  unfold encL Utf8.encode
  simp only [valid_lo (show m < 55296 by omega), if_true, Int.toNat_natCast, g1, if_false, h2, List.map_cons, List.map_nil, UInt8.toNat_ofNat']
  simp; omega
theorem encL_three {m : Nat} (h : 2048 ≤ m) (h2 : m < 55296 ∨ 57344 ≤ m) (h3 : m < 65536) : encL (m : Int) = [224 + m / 4096, 128 + m / 64 % 64, 128 + m % 64] := by
  have g1 : ¬ m < 128 := by omega
  have g2 : ¬ m < 2048 := by omega
  have g3 : Utf8.valid (m : Int) = true := by rcases h2 with h2 | h2; exact valid_lo h2; exact valid_hi h2 (by omega)
  unfold encL Utf8.encode
  simp only [g3, if_true, Int.toNat_natCast, g1, g2, h3, if_false, List.map_cons, List.map_nil, UInt8.toNat_ofNat']
  simp; omega
theorem encL_no {m : Nat} (h : 55296 ≤ m) (h2 : m < 57344) : encL (m : Int) = [239, 191, 189] := by
  unfold encL Utf8.encode
  have e : (if Utf8.valid (m : Int) = true then (m : Int).toNat else Utf8.runeError) = 65533 := by rw [valid_no h h2]; rfl
  simp only [e]
  rfl
theorem encL_four {m : Nat} (h : 65536 ≤ m) (h2 : m ≤ 1114111) : encL (m : Int) = [240 + m / 262144, 128 + m / 4096 % 64, 128 + m / 64 % 64, 128 + m % 64] := by
  have g1 : ¬ m < 128 := by omega
  have g2 : ¬ m < 2048 := by omega
  have g3 : ¬ m < 65536 := by omega
  unfold encL Utf8.encode
  simp only [valid_hi (show 57344 ≤ m by omega) h2, if_true, Int.toNat_natCast, g1, g2, g3, if_false, List.map_cons, List.map_nil, UInt8.toNat_ofNat']
  simp; omega
theorem encL_byt (m : Nat) : Byt (encL (m : Int)) := by
  intro x hx
  unfold encL at hx
  obtain ⟨y, _, rfl⟩ := List.mem_map.1 hx
  exact y.toNat_lt
/-! ### Bits -/
theorem wrap8m (m : Nat) : IntKind.u8.wrap (m : Int) = ((m % 256 : Nat) : Int) := by simp only [IntKind.wrap, IntKind.signed, IntKind.bits]; simp
theorem wrap32u (m : Nat) (h : m < 4294967296) : IntKind.u32.wrap (m : Int) = (m : Int) := by simp only [IntKind.wrap, IntKind.signed, IntKind.bits]; simp; omega
theorem isI_eq {o : Option CV} {k : IntKind} {n : Int} (h : isI o k (fun r => decide (r = n)) = true) : o = some (.i k n) := by
  obtain ⟨r, h1, h2⟩ := isI_elim h
  simp only [decide_eq_true_eq] at h2
  rw [h1, h2]
theorem low6 {m : Nat} (h : m < 256) : intBin .and .u8 (m : Int) 63 = some (.i .u8 ((m % 64 : Nat) : Int)) := isI_eq (and63 ⟨m, h⟩)
theorem or128F : ∀ x : Fin 64, isI (intBin .or .u8 128 ((x.val : Nat) : Int)) .u8 (fun r => decide (r = ((128 + x.val : Nat) : Int))) = true := by decide +kernel
theorem or128 {m : Nat} (h : m < 64) : intBin .or .u8 128 (m : Int) = some (.i .u8 ((128 + m : Nat) : Int)) := isI_eq (or128F ⟨m, h⟩)
theorem or192F : ∀ x : Fin 32, isI (intBin .or .u8 192 ((x.val : Nat) : Int)) .u8 (fun r => decide (r = ((192 + x.val : Nat) : Int))) = true := by decide +kernel
theorem or192 {m : Nat} (h : m < 32) : intBin .or .u8 192 (m : Int) = some (.i .u8 ((192 + m : Nat) : Int)) := isI_eq (or192F ⟨m, h⟩)
theorem or224F : ∀ x : Fin 16, isI (intBin .or .u8 224 ((x.val : Nat) : Int)) .u8 (fun r => decide (r = ((224 + x.val : Nat) : Int))) = true := by decide +kernel
theorem or224 {m : Nat} (h : m < 16) : intBin .or .u8 224 (m : Int) = some (.i .u8 ((224 + m : Nat) : Int)) := isI_eq (or224F ⟨m, h⟩)
theorem or240F : ∀ x : Fin 8, isI (intBin .or .u8 240 ((x.val : Nat) : Int)) .u8 (fun r => decide (r = ((240 + x.val : Nat) : Int))) = true := by decide +kernel
theorem or240 {m : Nat} (h : m < 8) : intBin .or .u8 240 (m : Int) = some (.i .u8 ((240 + m : Nat) : Int)) := isI_eq (or240F ⟨m, h⟩)
theorem shr32 (m k : Nat) (hk : k ≤ 32) : shiftA .shr .i32 (m : Int) (k : Int) = some (.i .i32 ((m / 2 ^ k : Nat) : Int)) := by
  have h1 : ilt (k : Int) 0 = false := by rw [ilt_eq]; exact decide_eq_false (by omega)
  have h2 : (m : Int).fdiv (2 ^ (min (k : Int).toNat IntKind.i32.bits)) = ((m / 2 ^ k : Nat) : Int) := by
    have e : min (k : Int).toNat IntKind.i32.bits = k := by show min (k : Int).toNat 32 = k; omega
    rw [e, Int.fdiv_eq_ediv_of_nonneg _ (Int.pow_nonneg (by decide)), Int.natCast_ediv]
    rw [Int.natCast_pow]; rfl
  simp only [shiftA, h1, cond_false, h2, mkI_eq]
section
variable {w0 : World} {A : AW}
/-- One piece of bytes is appended. -/
theorem piece {v : CV} {br : Option Nat} {l : List Nat} (ho : Own A 5 1 v l.length (l.map byteC) br) (hA : A.Fresh) (cs : List CV) (s : List Nat) (hcs : cs = s.map byteC) (hlen : l.length + s.length < 1000000000000) (k : Nat) (hk : k = s.length)
    {Q : CV → AW → Prop} (hQ : ∀ v' A', A'.Fresh → (∃ br', Own A' 5 1 v' (l ++ s).length ((l ++ s).map byteC) br' ∧ But1 A br A' ∧ (br' = br ∨ ∃ d, br' = some d ∧ A.next ≤ d)) → Q v' A') :
    ∃ v' A', appendA Tryz.prog (A.push (AObj.mk cs 5 0 0 false false)) 22 22 v (CV.se A.next 0 k k) = some (v', A') ∧ Q v' A' := by
  subst hcs; subst hk
  obtain ⟨i, hi, hi1, hi2⟩ := i5
  have ho' : Own (A.push ⟨s.map byteC, 5, 0, 0, false, false⟩) 5 i.size v l.length (l.map byteC) br := by rw [hi1]; exact ho.keep fun d ob _ hg => (Ext'.push _ _).get hA hg
  have hnews : newsA (A.push ⟨s.map byteC, 5, 0, 0, false, false⟩) 1 (.se A.next 0 s.length s.length) = some (s.length, s.map byteC) := by
    have := subN_of (l := s.map byteC) (r := s.map byteC) (o := 0) (fun j _ => by rw [Nat.zero_add])
    rw [List.length_map] at this
    simp only [newsA, elemsA, cellsA, push_same, Nat.mul_one, this]
  obtain ⟨v', A2, br', g1, g2, g3, g4, g5⟩ := append_own (P := Tryz.prog) (t := 22) (u := 22) (i := i) (m := s.length) (news := s.map byteC) u22 n22 hi z5 (by rw [hi1]; rfl) (by omega) ho' (allOne_bytes l)
    (by rw [hi1]; exact hnews) (by rw [hi1]; simp) (allOne_bytes s) (hA.push _) (by rw [hi2]; omega) (by omega)
  refine ⟨v', A2, g1, hQ v' A2 g4 ⟨br', ?_, ⟨Nat.le_trans (Nat.le_succ _) g3.next, fun d hd hne => ?_⟩, ?_⟩⟩
  · rw [hi1] at g2; rw [List.length_append, List.map_append]; exact g2
  · rw [g3.same d (Nat.lt_succ_of_lt hd) hne, push_other _ _ (by omega)]
  · rcases g5 with e | ⟨d, e, hd⟩
    · exact .inl e
    · exact .inr ⟨d, e, Nat.le_trans (Nat.le_succ _) hd⟩
/-- utf8.AppendRune, beyond one byte. -/
theorem appendBig_run {v : CV} {br : Option Nat} {l : List Nat} (ho : Own A 5 1 v l.length (l.map byteC) br) (hA : A.Fresh) {m : Nat} (h0 : 128 ≤ m) (hm : m ≤ 1114111) (hlen : l.length + 4 < 1000000000000) :
    F Tryz.prog w0 162 [v, .i .i32 (m : Int)] A (fun v' A' => A'.Fresh ∧ ∃ br', Own A' 5 1 v' (l ++ encL (m : Int)).length ((l ++ encL (m : Int)).map byteC) br' ∧ But1 A br A' ∧ (br' = br ∨ ∃ d, br' = some d ∧ A.next ≤ d)) := by
  have s6 : shiftA .shr .i32 (m : Int) 6 = some (.i .i32 ((m / 64 : Nat) : Int)) := shr32 m 6 (by omega)
  have s12 : shiftA .shr .i32 (m : Int) 12 = some (.i .i32 ((m / 4096 : Nat) : Int)) := shr32 m 12 (by omega)
  have s18 : shiftA .shr .i32 (m : Int) 18 = some (.i .i32 ((m / 262144 : Nat) : Int)) := shr32 m 18 (by omega)
  have e1 := wrap8m m
  have e2 := wrap8m (m / 64)
  have e3 := wrap8m (m / 4096)
  have e4 := wrap8m (m / 262144)
  have b1 : m % 256 % 64 = m % 64 := by omega
  have b2 : m / 64 % 256 % 64 = m / 64 % 64 := by omega
  have b3 : m / 4096 % 256 % 64 = m / 4096 % 64 := by omega
  have b4 : m / 262144 % 256 = m / 262144 := by omega
  have a1 := low6 (m := m % 256) (by omega)
  have a2 := low6 (m := m / 64 % 256) (by omega)
  have a3 := low6 (m := m / 4096 % 256) (by omega)
  rw [b1] at a1
  rw [b2] at a2
  rw [b3] at a3
  rw [b4] at e4
  have o1 := or128 (m := m % 64) (by omega)
  have o2 := or128 (m := m / 64 % 64) (by omega)
  have o3 := or128 (m := m / 4096 % 64) (by omega)
  have o4 := or240 (m := m / 262144) (by omega)
  let Q : CV → AW → Prop := fun v' A' => A'.Fresh ∧ ∃ br', Own A' 5 1 v' (l ++ encL (m : Int)).length ((l ++ encL (m : Int)).map byteC) br' ∧ But1 A br A' ∧ (br' = br ∨ ∃ d, br' = some d ∧ A.next ≤ d)
  have no : 55296 ≤ m → m < 57344 → ∃ v' A', appendA Tryz.prog (A.push (AObj.mk [.i .u8 239, .i .u8 191, .i .u8 189] 5 0 0 false false)) 22 22 v (CV.se A.next 0 3 3) = some (v', A') ∧ Q v' A' := fun h h2 =>
    piece ho hA _ [239, 191, 189] rfl (by simp; omega) 3 rfl fun v' A' h1 h3 => ⟨h1, by rw [encL_no h h2]; exact h3⟩
  have three : 2048 ≤ m → (m < 55296 ∨ 57344 ≤ m) → m < 65536 → ∃ v' A', appendA Tryz.prog (A.push (AObj.mk [.i .u8 ((224 + m / 4096 : Nat) : Int), .i .u8 ((128 + m / 64 % 64 : Nat) : Int), .i .u8 ((128 + m % 64 : Nat) : Int)] 5 0 0 false false)) 22 22 v (CV.se A.next 0 3 3) = some (v', A') ∧ Q v' A' := fun h h2 h3 =>
    piece ho hA _ [224 + m / 4096, 128 + m / 64 % 64, 128 + m % 64] rfl (by simp; omega) 3 rfl fun v' A' h1 h4 => ⟨h1, by rw [encL_three h h2 h3]; exact h4⟩
  have four : 65536 ≤ m → ∃ v' A', appendA Tryz.prog (A.push (AObj.mk [.i .u8 ((240 + m / 262144 : Nat) : Int), .i .u8 ((128 + m / 4096 % 64 : Nat) : Int), .i .u8 ((128 + m / 64 % 64 : Nat) : Int), .i .u8 ((128 + m % 64 : Nat) : Int)] 5 0 0 false false)) 22 22 v (CV.se A.next 0 4 4) = some (v', A') ∧ Q v' A' := fun h =>
    piece ho hA _ [240 + m / 262144, 128 + m / 4096 % 64, 128 + m / 64 % 64, 128 + m % 64] rfl (by simp; omega) 4 rfl fun v' A' h1 h4 => ⟨h1, by rw [encL_four h hm]; exact h4⟩
  -- (a literal beside ↑m is peeled by whnf: the unit is hidden)
  obtain ⟨z, hz⟩ : ∃ z : Int, z = (m : Int) := ⟨_, rfl⟩
  rw [← hz]
  refine F.code 78 (by kernel_rfl) (v162 ⟨rfl, rfl, trivial⟩ ⟨z, by rw [hz]; exact (wrap32u m (by omega)).symm, ?_⟩)
  refine vcIf.decide (fun h => ?_) (fun h1 => ?_)
  rotate_left
  refine vcIf.of (fun h2 => ?_) (fun h2 => ?_) <;> simp only [decide_eq_true_eq, decide_eq_false_iff_not] at h2
  · refine vcIf.of (fun h3 => ?_) fun h3 => absurd h2 (of_decide_eq_false h3)
    subst hz; exact ⟨_, s12, _, e3.symm, _, by rw [show m / 4096 % 256 = m / 4096 by omega]; exact or224 (by omega), _, s6, _, e2.symm, _, a2, _, o2, _, e1.symm, _, a1, _, o1, [.i .u8 ((224 + m / 4096 : Nat) : Int), .i .u8 ((128 + m / 64 % 64 : Nat) : Int), .i .u8 ((128 + m % 64 : Nat) : Int)], rfl, three (by omega) (by omega) (by omega)⟩
  · refine vcIf.of (fun h3 => ?_) (fun h3 => ?_) <;> simp only [decide_eq_true_eq, decide_eq_false_iff_not] at h3
    · refine vcIf.of (fun h4 => ?_) (fun h4 => ?_) <;> simp only [decide_eq_true_eq, decide_eq_false_iff_not] at h4
      · subst hz; exact ⟨_, s12, _, e3.symm, _, by rw [show m / 4096 % 256 = m / 4096 by omega]; exact or224 (by omega), _, s6, _, e2.symm, _, a2, _, o2, _, e1.symm, _, a1, _, o1, [.i .u8 ((224 + m / 4096 : Nat) : Int), .i .u8 ((128 + m / 64 % 64 : Nat) : Int), .i .u8 ((128 + m % 64 : Nat) : Int)], rfl, three (by omega) (by omega) (by omega)⟩
      · refine vcIf.of (fun h5 => ?_) (fun h5 => ?_) <;> simp only [decide_eq_true_eq, decide_eq_false_iff_not] at h5
        · refine vcIf.of (fun h6 => ?_) (fun h6 => ?_) <;> simp only [decide_eq_true_eq, decide_eq_false_iff_not] at h6
          · subst hz; exact ⟨_, s18, _, e4.symm, _, o4, _, s12, _, e3.symm, _, a3, _, o3, _, s6, _, e2.symm, _, a2, _, o2, _, e1.symm, _, a1, _, o1, [.i .u8 ((240 + m / 262144 : Nat) : Int), .i .u8 ((128 + m / 4096 % 64 : Nat) : Int), .i .u8 ((128 + m / 64 % 64 : Nat) : Int), .i .u8 ((128 + m % 64 : Nat) : Int)], rfl, four (by omega)⟩
          · omega
        · omega
    · refine vcIf.of (fun h5 => ?_) (fun h5 => ?_) <;> simp only [decide_eq_true_eq, decide_eq_false_iff_not] at h5
      · refine vcIf.of (fun h6 => ?_) (fun h6 => ?_) <;> simp only [decide_eq_true_eq, decide_eq_false_iff_not] at h6
        · subst hz; exact ⟨_, s18, _, e4.symm, _, o4, _, s12, _, e3.symm, _, a3, _, o3, _, s6, _, e2.symm, _, a2, _, o2, _, e1.symm, _, a1, _, o1, [.i .u8 ((240 + m / 262144 : Nat) : Int), .i .u8 ((128 + m / 4096 % 64 : Nat) : Int), .i .u8 ((128 + m / 64 % 64 : Nat) : Int), .i .u8 ((128 + m % 64 : Nat) : Int)], rfl, four (by omega)⟩
        · omega
      · subst hz; exact ⟨[.i .u8 239, .i .u8 191, .i .u8 189], rfl, no (by omega) (by omega)⟩
  · subst hz
    refine ⟨_, s6, _, e2.symm, _, by rw [show m / 64 % 256 = m / 64 by omega]; exact or192 (by omega), _, e1.symm, _, a1, _, o1, [.i .u8 ((192 + m / 64 : Nat) : Int), .i .u8 ((128 + m % 64 : Nat) : Int)], rfl, ?_⟩
    rw [encL_two h0 (by omega)]
    exact piece ho hA _ [192 + m / 64, 128 + m % 64] rfl (by simp; omega) 2 rfl fun v' A' h1 h2 => ⟨h1, h2⟩
/-- ████ utf8.AppendRune -/
theorem appendRune_run {v : CV} {br : Option Nat} {l : List Nat} (ho : Own A 5 1 v l.length (l.map byteC) br) (hA : A.Fresh) {m : Nat} (hm : m ≤ 1114111) (hlen : l.length + 4 < 1000000000000) :
    F Tryz.prog w0 125 [v, .i .i32 (m : Int)] A (fun v' A' => A'.Fresh ∧ ∃ br', Own A' 5 1 v' (l ++ encL (m : Int)).length ((l ++ encL (m : Int)).map byteC) br' ∧ But1 A br A' ∧ (br' = br ∨ ∃ d, br' = some d ∧ A.next ≤ d)) := by
  refine F.code 16 (by kernel_rfl) (v125 ⟨rfl, rfl, trivial⟩ ⟨m, (wrap32u m (by omega)).symm, vcIf.decide (fun h => ?_) fun h => ?_⟩)
  · have e1 := wrap8m m
    rw [show m % 256 = m by omega] at e1
    refine ⟨_, e1.symm, [.i .u8 (m : Int)], rfl, ?_⟩
    rw [encL_one (by omega)]
    exact piece ho hA _ [m] rfl (by simp; omega) 1 rfl fun v' A' h1 h2 => ⟨h1, h2⟩
  · exact (appendBig_run ho hA (by omega) hm hlen).mono fun v' A' h => ⟨_, rfl, h⟩
/-- ████ strings.(*Builder).WriteRune -/
theorem writeRune_run {b : Nat} {br : Option Nat} {l : List Nat} {m : Nat} (h : Bld A b br l) (hA : A.Fresh) (hm : m ≤ 1114111) (hlen : l.length + 4 < 1000000000000) :
    F Tryz.prog w0 88 [.p b 0, .i .i32 (m : Int)] A (fun r A' => (∃ x v, r = .t [.i .i64 x, v]) ∧ A'.Fresh ∧ ∃ br', Bld A' b br' (l ++ encL (m : Int)) ∧ BW A b br A' br') := by
  refine F.code 30 (by kernel_rfl) (v88 ⟨rfl, rfl, trivial⟩ ((copyCheck_run h hA).mono ?_))
  rintro r A1 ⟨rfl, hA1, _, hb, hw⟩
  obtain ⟨⟨y, v, h1, h2, h3⟩, h4, h5⟩ := hb
  have hlt := hA1.lt h1
  have hl : loadA Tryz.prog A1 22 b (0 + 1) = some v := load_cell a22 (by rw [cellAt_of h1]; rfl)
  refine ⟨rfl, v, hl, _, h3.sl.len_ok u22, v, hl, (appendRune_run h3 hA1 hm hlen).mono ?_⟩
  rintro v' A2 ⟨hA2, br', g2, g3, g5⟩
  have hb2 : A2.heap.get b = some ⟨[y, v], 60, 0, 0, false, false⟩ := g3.get hA1 h1 h4
  have hne : br' ≠ some b := by
    rcases g5 with e | ⟨d, e, hd⟩
    · rw [e]; exact h4
    · rw [e]; intro e'; injection e' with e'; omega
  obtain ⟨c1, c2⟩ := own_one g2
  obtain ⟨p1, p2, p3⟩ := AW.put_get A2 b (some ⟨[y, v'], 60, 0, 0, false, false⟩)
  refine ⟨v', rfl, _, (bld_store hb2 s22 c1 c2).1, v', load_cell a22 (by rw [cellAt_of p1]; rfl), _, g2.sl.len_ok u22, _, rfl, ⟨_, _, rfl⟩, hA2.put (Nat.lt_of_lt_of_le hlt g3.next) _, br', ⟨⟨y, v', p1, h2, ?_⟩, hne, ?_⟩, hw.trans ⟨by rw [p2]; exact g3.next, fun d hd hd1 hd2 => ?_, g5⟩⟩
  · exact g2.keep fun d ob hd hg => by rw [p3 d (fun e => hne (e ▸ hd))]; exact hg
  · intro m hm
    rcases List.mem_append.1 hm with hm | hm
    · exact h5 m hm
    · exact encL_byt _ m hm
  · rw [p3 d hd1, g3.same d hd hd2]
end
end Go.Proofs.R31
