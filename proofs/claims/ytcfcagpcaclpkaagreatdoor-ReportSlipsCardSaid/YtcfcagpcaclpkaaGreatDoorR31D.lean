/-
  Places, digits, cuts: what the document's functions compute. Conditions: the bytes lie in memory.
-/
import Derived.Test.YtcfcagpcaclpkaaGreatDoorR31C
import Derived.Lib.ItoaNum
set_option maxRecDepth 100000
namespace Go.Proofs.R31
open Go Go.Ce
/-! ### Plain words -/
/-- Line and column ahead of a place. -/
def placeOf : List (Nat × Nat × Nat) → Nat → Nat × Nat → Nat × Nat
  | [], _, p => p
  | u :: us, at', p => if at' ≤ u.1 then p else placeOf us at' (if u.2.1 = 10 then (p.1 + 1, 0) else (p.1, p.2 + 1))
/-- A place brought into the bytes. -/
def clampN (n : Nat) (x : Int) : Nat := (min (max x 0) (n : Int)).toNat
theorem clampN_le (n : Nat) (x : Int) : clampN n x ≤ n := by unfold clampN; omega
theorem clampN_eq (n : Nat) (x : Int) : min (max x 0) (Int.ofNat n) = (clampN n x : Int) := by unfold clampN; simp only [Int.ofNat_eq_natCast]; omega
def placeAt (l : List Nat) (x : Int) : Nat × Nat := placeOf (unitsFrom l 0) (clampN l.length x) (1, 0)
theorem placeOf_le (us : List (Nat × Nat × Nat)) (a : Nat) (p : Nat × Nat) : (placeOf us a p).1 ≤ p.1 + us.length ∧ (placeOf us a p).2 ≤ p.2 + us.length := by
  induction us generalizing p with
  | nil => simp [placeOf]
  | cons u us ih =>
    simp only [placeOf, List.length_cons]
    split
    · omega
    · by_cases hu : u.2.1 = 10
      · obtain ⟨h1, h2⟩ := ih (p.1 + 1, 0)
        rw [if_pos hu]
        simp only at h1 h2
        omega
      · obtain ⟨h1, h2⟩ := ih (p.1, p.2 + 1)
        rw [if_neg hu]
        simp only at h1 h2
        omega
def itoaN (n : Int) : List Nat := (Lib.itoa n).map UInt8.toNat
def decN (u : Nat) : List Nat := (Lib.decDigits u).map UInt8.toNat
theorem decN_small {u : Nat} (h : u < 10) : decN u = [48 + u] := by
  unfold decN; rw [Lib.decDigits, dif_pos h]
  simp; omega
theorem decN_big {u : Nat} (h : ¬ u < 10) : decN u = decN (u / 10) ++ [48 + u % 10] := by
  unfold decN; rw [Lib.decDigits, dif_neg h]
  simp; omega
theorem itoaN_pos {n : Nat} : itoaN (n : Int) = decN n := by unfold itoaN decN Lib.itoa; rw [if_neg (by omega)]; simp
theorem itoaN_neg {n : Int} (h : n < 0) : itoaN n = 45 :: decN n.natAbs := by unfold itoaN decN Lib.itoa; rw [if_pos h]; rfl
theorem decN_len (u : Nat) : ∀ k, u < 10 ^ (k + 1) → (decN u).length ≤ k + 1 := by
  intro k
  induction k generalizing u with
  | zero => intro h; rw [decN_small (by simpa using h)]; simp
  | succ k ih =>
    intro h
    by_cases hu : u < 10
    · rw [decN_small hu]; simp
    · rw [decN_big hu, List.length_append]
      have := ih (u / 10) (by rw [Nat.pow_succ] at h; omega)
      simp; omega
theorem itoaN_len {n : Int} (h0 : -9223372036854775808 ≤ n) (h1 : n ≤ 9223372036854775807) : (itoaN n).length ≤ 20 := by
  by_cases h : n < 0
  · rw [itoaN_neg h]
    have := decN_len n.natAbs 18 (by omega)
    simp; omega
  · obtain ⟨m, rfl⟩ : ∃ m : Nat, n = m := ⟨n.toNat, by omega⟩
    rw [itoaN_pos]
    have := decN_len m 18 (by omega)
    omega
def placeText (l : List Nat) (x : Int) : List Nat := itoaN ((placeAt l x).1 : Int) ++ [58] ++ itoaN ((placeAt l x).2 : Int)
/-- Bytes from one place to another one, both brought into them. -/
def cutN (l : List Nat) (from_ to_ : Int) : List Nat := (l.drop (clampN l.length from_)).take (clampN l.length (max to_ (clampN l.length from_ : Int)) - clampN l.length from_)
theorem wrapU {x : Int} (h0 : 0 ≤ x) (h1 : x ≤ 18446744073709551615) : IntKind.u64.wrap x = x := by
  simp only [IntKind.wrap, IntKind.signed, IntKind.bits]; simp; omega
theorem wrap8 {x : Int} (h0 : 0 ≤ x) (h1 : x ≤ 255) : IntKind.u8.wrap x = x := by
  simp only [IntKind.wrap, IntKind.signed, IntKind.bits]; simp; omega
section
variable {w0 : World} {A : AW}
/-- ████ pollardref01.Place. -/
theorem refPlace_run {v : CV} {l : List Nat} (hb : Bs A v l) (hA : A.Fresh) (hlen : l.length < 1000000000) (x : Int) :
    F Tryz.prog w0 55 [v, .i .i64 x] A (fun r A' => A' = A ∧ r = .t [.i .i64 ((placeAt l x).1 : Int), .i .i64 ((placeAt l x).2 : Int)]) := by
  have hul := unitsFrom_len hb.lt _ 0 rfl
  refine F.forget (F.code 42 (by kernel_rfl) (v55 ⟨rfl, rfl, trivial⟩ ⟨l.length, hb.sl.len_ok u22, (units_run hb hA hlen).mono ?_⟩))
  rintro r A1 ⟨hx, hA1, hs⟩
  refine ⟨r, rfl, fun fr0 f0 => ?_⟩
  rw [clampN_eq] at f0
  refine W.for_ (fun m fr A' => ∃ (k line col : Nat), m = (unitsFrom l 0).length - k ∧ A' = A1 ∧ k ≤ (unitsFrom l 0).length ∧ placeOf ((unitsFrom l 0).drop k) (clampN l.length x) (line, col) = placeAt l x ∧ line ≤ 1 + k ∧ col ≤ k ∧
    Fr fr [(1, .i .i64 (clampN l.length x : Int)), (6, .i .i64 (line : Int)), (7, .i .i64 (col : Int)), (8, r), (9, .i .i64 (k : Int))]) (m := (unitsFrom l 0).length) ⟨0, 1, 0, rfl, rfl, by omega, rfl, by omega, by omega, f0⟩ ?_
  rintro m fr1 A2 ⟨k, line, col, rfl, rfl, hk, hp, hl, hc, hf⟩
  refine v55_11110100 hf ⟨_, hs.len_ok u116, vcIf.decide (fun h => ?_) (fun h fr2 h2 => ?_)⟩
  · have hkl : k < (unitsFrom l 0).length := by simp at h; omega
    obtain ⟨b, o, g1, g2⟩ := hs.addr (P := Tryz.prog) u116 s120 hkl .i64
    have e0 := g2 0 (by omega)
    have e1 := g2 1 (by omega)
    rw [unitC_get _ _ _ hkl (by omega)] at e0 e1
    have hd : (unitsFrom l 0).drop k = (unitsFrom l 0)[k] :: (unitsFrom l 0).drop (k + 1) := List.drop_eq_getElem_cons hkl
    rw [hd] at hp
    simp only [placeOf] at hp
    generalize (unitsFrom l 0)[k] = u at *
    have w1 : IntKind.i64.wrap ((k : Int) + 1) = ((k + 1 : Nat) : Int) := by rw [wrap64 (by omega) (by omega)]; simp
    have w2 : IntKind.i64.wrap ((line : Int) + 1) = ((line + 1 : Nat) : Int) := by rw [wrap64 (by omega) (by omega)]; simp
    have w3 : IntKind.i64.wrap ((col : Int) + 1) = ((col + 1 : Nat) : Int) := by rw [wrap64 (by omega) (by omega)]; simp
    refine ⟨b, o, g1, _, load_cell a3 e0, vcIf.decide (fun h3 fr3 h4 => ?_) (fun h3 => ⟨_, w3.symm, b, o, g1, _, load_cell a21 e1, vcIf.decide (fun h5 => ⟨_, w2.symm, _, w1.symm, fun fr4 h6 => ?_⟩) (fun h5 => ⟨_, w1.symm, fun fr4 h6 => ?_⟩)⟩)⟩
    · rw [if_pos (by omega)] at hp
      refine v55_11111 h4 ⟨hx, rfl, ?_⟩
      rw [← hp]
    · rw [if_neg (by omega), if_pos (by omega)] at hp
      exact ⟨_, by omega, k + 1, line + 1, 0, rfl, rfl, hkl, hp, by omega, by omega, h6⟩
    · rw [if_neg (by omega), if_neg (by omega)] at hp
      exact ⟨_, by omega, k + 1, line, col + 1, rfl, rfl, hkl, hp, by omega, by omega, h6⟩
  · have hkl : ¬ k < (unitsFrom l 0).length := by simp at h; omega
    rw [List.drop_of_length_le (by omega)] at hp
    simp only [placeOf] at hp
    refine v55_11111 h2 ⟨hx, rfl, ?_⟩
    rw [← hp]
/-- One byte as a text. -/
theorem one_byte {A : AW} (m : Nat) (hm : m < 256) : convA Tryz.prog (A.push (AObj.mk [.i .u8 (m : Int)] 5 0 0 false false)) 22 9 (CV.se A.next 0 1 1) = some (CV.s [m]) := by
  refine (⟨⟨?_, rfl, rfl⟩, fun x hx => by simp at hx; omega⟩ : Bs (A.push (AObj.mk [.i .u8 (m : Int)] 5 0 0 false false)) (CV.se A.next 0 1 1) [m]).conv u22 u5 u9
  simp only [elemsA, cellsA, push_same]
  rfl
/-- pollardref11.plain -/
theorem plain_run (hA : A.Fresh) (u : Nat) (hu : u ≤ 18446744073709551615) : F Tryz.prog w0 58 [.i .u64 (u : Int)] A (fun r A' => A' = A ∧ r = .s (decN u)) := by
  refine F.forget (F.code 23 (by kernel_rfl) (v58 ⟨rfl, trivial⟩ fun fr0 f0 => ?_))
  refine WF.for_ (fun m fr A' => ∃ (k : Nat) (s : List Nat), m = k ∧ Ext' A A' ∧ decN k ++ s = decN u ∧ k ≤ u ∧ s.length + (decN k).length ≤ 20 ∧ Fr fr [(0, .i .u64 (k : Int)), (3, .s s)]) (m := u)
    ⟨u, [], rfl, Ext'.refl A, by simp, by omega, by have := decN_len u 19 (by omega); simpa using this, f0⟩ ?_
  rintro m fr1 A1 ⟨k, s, rfl, hx, hs, hk, hl, hf⟩
  refine v58_11000 hf (vcIf.decide (fun h => ?_) (fun h fr2 h2 => ?_))
  · have hkb : ¬ m < 10 := by omega
    have e1 : (m : Int).tmod 10 = ((m % 10 : Nat) : Int) := by rw [Int.tmod_eq_emod_of_nonneg (by omega)]; omega
    have e2 : IntKind.u64.wrap (48 + ((m % 10 : Nat) : Int)) = ((48 + m % 10 : Nat) : Int) := by rw [wrapU (by omega) (by omega)]; omega
    have e3 : IntKind.u8.wrap ((48 + m % 10 : Nat) : Int) = ((48 + m % 10 : Nat) : Int) := wrap8 (by omega) (by omega)
    have e4 : IntKind.u64.wrap ((m : Int).tdiv 10) = ((m / 10 : Nat) : Int) := by
      have : (m : Int).tdiv 10 = ((m / 10 : Nat) : Int) := by rw [Int.tdiv_eq_ediv_of_nonneg (by omega)]; omega
      rw [this, wrapU (by omega) (by omega)]
    rw [decN_big hkb] at hs hl
    simp only [List.length_append, List.length_singleton] at hl
    refine ⟨_, e1.symm, _, e2.symm, _, e3.symm, [.i .u8 ((48 + m % 10 : Nat) : Int)], by kernel_rfl, _, one_byte _ (by omega), by simp; omega, _, e4.symm, fun fr2 h2 => ⟨m / 10, by omega, m / 10, _, rfl, hx.trans (Ext'.push _ _), ?_, by omega, ?_, h2⟩⟩
    · rw [← hs, List.append_assoc]
    · simp; omega
  · have hks : m < 10 := by omega
    have e2 : IntKind.u64.wrap (48 + (m : Int)) = ((48 + m : Nat) : Int) := by rw [wrapU (by omega) (by omega)]; omega
    have e3 : IntKind.u8.wrap ((48 + m : Nat) : Int) = ((48 + m : Nat) : Int) := wrap8 (by omega) (by omega)
    rw [decN_small hks] at hs hl
    simp only [List.length_singleton] at hl
    refine v58_111 h2 ⟨_, e2.symm, _, e3.symm, [.i .u8 ((48 + m : Nat) : Int)], by kernel_rfl, _, one_byte _ (by omega), by simp; omega, hx.trans (Ext'.push _ _), rfl, ?_⟩
    rw [hs]
/-- ████ pollardref11.Digits. -/
theorem digits_run (hA : A.Fresh) (n : Int) (h0 : -9223372036854775808 ≤ n) (h1 : n ≤ 9223372036854775807) : F Tryz.prog w0 23 [.i .i64 n] A (fun r A' => A' = A ∧ r = .s (itoaN n)) := by
  refine F.code 15 (by kernel_rfl) (v23 ⟨rfl, trivial⟩ (vcIf.decide (fun h => ?_) (fun h => ?_)))
  · have e0 : IntKind.i64.wrap (n + 1) = n + 1 := wrap64 (by omega) (by omega)
    have e1 : IntKind.i64.wrap (0 - (n + 1)) = 0 - (n + 1) := wrap64 (by omega) (by omega)
    have e2 : IntKind.u64.wrap (0 - (n + 1)) = 0 - (n + 1) := wrapU (by omega) (by omega)
    have e3 : IntKind.u64.wrap (0 - (n + 1) + 1) = ((n.natAbs : Nat) : Int) := by rw [wrapU (by omega) (by omega)]; omega
    refine ⟨_, e0.symm, _, e1.symm, _, e2.symm, _, e3.symm, (plain_run hA _ (by omega)).mono ?_⟩
    rintro r A' ⟨rfl, rfl⟩
    have := decN_len n.natAbs 19 (by omega)
    refine ⟨_, rfl, by omega, rfl, ?_⟩
    rw [itoaN_neg h]; rfl
  · obtain ⟨m, rfl⟩ : ∃ m : Nat, n = m := ⟨n.toNat, by omega⟩
    have e0 : IntKind.u64.wrap (m : Int) = (m : Int) := wrapU (by omega) (by omega)
    refine ⟨_, e0.symm, (plain_run hA m (by omega)).mono ?_⟩
    rintro r A' ⟨rfl, rfl⟩
    exact ⟨_, rfl, rfl, by rw [itoaN_pos]⟩
theorem placeAt_lt {l : List Nat} (hl : Byt l) (hlen : l.length < 1000000000) (x : Int) : (placeAt l x).1 ≤ 2000000000 ∧ (placeAt l x).2 ≤ 2000000000 := by
  have h1 := unitsFrom_len hl _ 0 rfl
  obtain ⟨h2, h3⟩ := placeOf_le (unitsFrom l 0) (clampN l.length x) (1, 0)
  unfold placeAt
  simp only at h2 h3
  omega
/-- ████ pollardref31.place. -/
theorem refPlaceText_run {v : CV} {l : List Nat} (hb : Bs A v l) (hA : A.Fresh) (hlen : l.length < 1000000000) (x : Int) :
    F Tryz.prog w0 20 [v, .i .i64 x] A (fun r A' => A' = A ∧ r = .s (placeText l x)) := by
  obtain ⟨b1, b2⟩ := placeAt_lt hb.lt hlen x
  refine F.code 19 (by kernel_rfl) (v20 ⟨rfl, rfl, trivial⟩ ((refPlace_run hb hA hlen x).mono ?_))
  rintro r A' ⟨rfl, rfl⟩
  refine ⟨_, _, rfl, (digits_run hA _ (by omega) (by omega)).mono ?_⟩
  rintro r A' ⟨rfl, rfl⟩
  have l1 := itoaN_len (n := ((placeAt l x).1 : Int)) (by omega) (by omega)
  have l2 := itoaN_len (n := ((placeAt l x).2 : Int)) (by omega) (by omega)
  refine ⟨_, rfl, by omega, (digits_run hA _ (by omega) (by omega)).mono ?_⟩
  rintro r A' ⟨rfl, rfl⟩
  exact ⟨_, rfl, by simp; omega, rfl, rfl⟩
/-- ████ pollardref31.cut. -/
theorem refCut_run {v : CV} {l : List Nat} (hb : Bs A v l) (x y : Int) :
    F Tryz.prog w0 22 [v, .i .i64 x, .i .i64 y] A (fun r A' => A' = A ∧ r = .s (cutN l x y)) := by
  have c1 := clampN_le l.length x
  have c2 := clampN_le l.length (max y (clampN l.length x : Int))
  have c3 : clampN l.length x ≤ clampN l.length (max y (clampN l.length x : Int)) := by unfold clampN at *; omega
  have e : min (max y (clampN l.length x : Int)) (Int.ofNat l.length) = (clampN l.length (max y (clampN l.length x : Int)) : Int) := by
    have h0 := clampN_eq l.length (max y (clampN l.length x : Int))
    rw [← h0, show max (max y (clampN l.length x : Int)) 0 = max y (clampN l.length x : Int) by omega]
  refine F.code 23 (by kernel_rfl) (v22 ⟨rfl, rfl, rfl, trivial⟩ ⟨_, hb.sl.len_ok u22, _, hb.sl.len_ok u22, ?_⟩)
  rw [clampN_eq, e]
  obtain ⟨v', g1, g2⟩ := hb.slice (P := Tryz.prog) (a := some (.i .i64 (clampN l.length x : Int))) (u := some (.i .i64 (clampN l.length (max y (clampN l.length x : Int)) : Int))) u22 s5 rfl rfl c3 c2
  exact ⟨v', g1, _, g2.conv u22 u5 u9, rfl, rfl⟩
end
end Go.Proofs.R31
