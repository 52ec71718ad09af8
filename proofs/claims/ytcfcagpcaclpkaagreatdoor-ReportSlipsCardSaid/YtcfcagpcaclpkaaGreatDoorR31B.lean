/-
  Units of a row of bytes: what the document's functions compute. Conditions: the bytes lie in memory.
-/
import Derived.Test.YtcfcagpcaclpkaaGreatDoorCfH
import Derived.Test.YtcfcagpcaclpkaaGreatDoorR31A
import Derived.Lib.DecodeN
set_option maxRecDepth 100000
namespace Go.Proofs.R31
open Go Go.Ce
/-! ### Types of the program -/
theorem u22 : Tryz.prog.underlying 22 = some (.slice 5) := by kernel_rfl
theorem u5 : Tryz.prog.underlying 5 = some (.int .u8) := by kernel_rfl
theorem u9 : Tryz.prog.underlying 9 = some .string := by kernel_rfl
theorem s5 : sizeP Tryz.prog 5 = some 1 := by kernel_rfl
theorem a5 : aggP Tryz.prog 5 = some false := by kernel_rfl
theorem a3 : aggP Tryz.prog 3 = some false := by kernel_rfl

/-! ### Plain words -/
def byt (l : List Nat) (i : Nat) : Nat := l.getD i 0
theorem byt_lt {l : List Nat} (h : Byt l) (i : Nat) : byt l i < 256 := by
  unfold byt
  rw [List.getD_eq_getElem?_getD]
  cases hi : l[i]? with
  | none => simp
  | some x => exact h x (List.mem_of_getElem? hi)
theorem byt_get {l : List Nat} {i : Nat} (h : i < l.length) : l[i] = byt l i := by simp [byt, List.getD_eq_getElem?_getD, h]
def fixU (c : Nat) (d : Nat × Nat) : Nat × Nat := if d.1 = 65533 ∧ d.2 ≤ 1 then (1114112 + c, 1) else d
/-- THE UNIT AT A PLACE, and its bytes' number. -/
def unitAt (l : List Nat) (i : Nat) : Nat × Nat := fixU (byt l i) (Lib.decodeN (l.length - i) (byt l i) (byt l (i + 1)) (byt l (i + 2)) (byt l (i + 3)))
def cont (l : List Nat) (j : Nat) : Bool := decide (j < l.length ∧ byt l j / 64 = 2)
def goOn (l : List Nat) (i : Nat) : Nat → Nat → Nat → Option Nat
  | 0, _, x => some x
  | d + 1, j, x => if cont l (i + j) then goOn l i d (j + 1) (x * 64 + byt l (i + j) % 64) else none
def tailU (c n x least : Nat) : Nat × Nat := if (n = 1 ∧ 128 ≤ c) ∨ x < least ∨ 1114111 < x ∨ (55296 ≤ x ∧ x ≤ 57343) then (1114112 + c, 1) else (x, n)
def finU (l : List Nat) (i n x least : Nat) : Nat × Nat := match goOn l i (n - 1) 1 x with
  | none => (1114112 + byt l i, 1)
  | some y => tailU (byt l i) n y least
def refAt (l : List Nat) (i : Nat) : Nat × Nat :=
  if byt l i < 192 then finU l i 1 (byt l i) 0
  else if byt l i < 224 then finU l i 2 (byt l i % 32) 128
  else if byt l i < 240 then finU l i 3 (byt l i % 16) 2048
  else if byt l i < 248 then finU l i 4 (byt l i % 8) 65536
  else finU l i 1 (byt l i) 0
theorem fixU_stray (c : Nat) : fixU c (65533, 1) = (1114112 + c, 1) := by simp [fixU]
theorem fixU_keep (c x n : Nat) (h : ¬ (x = 65533 ∧ n ≤ 1)) : fixU c (x, n) = (x, n) := by simp only [fixU]; rw [if_neg h]
set_option maxHeartbeats 4000000 in
theorem refAt_eq (l : List Nat) (hl : Byt l) (i : Nat) : refAt l i = unitAt l i := by
  have h0 := byt_lt hl i
  have h1 := byt_lt hl (i + 1)
  have h2 := byt_lt hl (i + 2)
  have h3 := byt_lt hl (i + 3)
  have c1 : (i + 1 < l.length) = (1 < l.length - i) := propext ⟨fun h => by omega, fun h => by omega⟩
  have c2 : (i + 2 < l.length) = (2 < l.length - i) := propext ⟨fun h => by omega, fun h => by omega⟩
  have c3 : (i + 3 < l.length) = (3 < l.length - i) := propext ⟨fun h => by omega, fun h => by omega⟩
  have e : ∀ n x least, finU l i n x least = match goOn l i (n - 1) 1 x with
    | none => (1114112 + byt l i, 1)
    | some y => tailU (byt l i) n y least := fun _ _ _ => rfl
  unfold refAt unitAt Lib.decodeN
  simp only [e, goOn, cont, c1, c2, c3, show 1 - 1 = 0 from rfl, show 2 - 1 = 1 from rfl, show 3 - 1 = 2 from rfl, show 4 - 1 = 3 from rfl, decide_eq_true_eq]
  generalize byt l i = b0 at *
  generalize byt l (i + 1) = b1 at *
  generalize byt l (i + 2) = b2 at *
  generalize byt l (i + 3) = b3 at *
  generalize l.length - i = n at *
  clear e c1 c2 c3 hl
  simp only [apply_ite (fixU b0), fixU_stray]
  by_cases k1 : b0 < 192
  · rw [if_pos k1]
    unfold tailU
    by_cases k2 : b0 < 128
    · rw [if_neg (by omega), if_pos k2, fixU_keep _ _ _ (by omega)]
    · rw [if_pos (by omega), if_neg k2, if_neg (by omega), if_neg (by omega), if_neg (by omega)]
  rw [if_neg k1]
  by_cases k2 : b0 < 224
  · rw [if_pos k2]
    by_cases k3 : 1 < n ∧ b1 / 64 = 2
    · rw [if_pos k3]
      simp only [tailU]
      by_cases k4 : b0 % 32 * 64 + b1 % 64 ≥ 128
      · rw [if_neg (by omega), if_neg (show ¬ b0 < 128 by omega), if_pos (show b0 / 32 = 6 ∧ 1 < n ∧ b1 / 64 = 2 by omega), if_pos k4, fixU_keep _ _ _ (by omega)]
      · rw [if_pos (by omega), if_neg (show ¬ b0 < 128 by omega), if_pos (show b0 / 32 = 6 ∧ 1 < n ∧ b1 / 64 = 2 by omega), if_neg k4]
    · rw [if_neg k3, if_neg (show ¬ b0 < 128 by omega), if_neg (show ¬ (b0 / 32 = 6 ∧ 1 < n ∧ b1 / 64 = 2) by omega), if_neg (by omega), if_neg (by omega)]
  rw [if_neg k2]
  by_cases k3 : b0 < 240
  · rw [if_pos k3]
    by_cases k4 : 1 < n ∧ b1 / 64 = 2
    · rw [if_pos k4]
      by_cases k5 : 2 < n ∧ b2 / 64 = 2
      · rw [if_pos k5]
        simp only [tailU]
        rw [if_neg (show ¬ b0 < 128 by omega), if_neg (show ¬ (b0 / 32 = 6 ∧ 1 < n ∧ b1 / 64 = 2) by omega), if_pos (show b0 / 16 = 14 ∧ (1 < n ∧ b1 / 64 = 2) ∧ 2 < n ∧ b2 / 64 = 2 by omega), fixU_keep _ _ 3 (by omega)]
        rw [show (b0 % 16 * 64 + b1 % 64) * 64 + b2 % 64 = b0 % 16 * 4096 + b1 % 64 * 64 + b2 % 64 by omega]
        generalize b0 % 16 * 4096 + b1 % 64 * 64 + b2 % 64 = y
        split <;> split <;> first | rfl | omega
      · rw [if_neg k5, if_neg (show ¬ b0 < 128 by omega), if_neg (by omega), if_neg (by omega), if_neg (by omega)]
    · rw [if_neg k4, if_neg (show ¬ b0 < 128 by omega), if_neg (by omega), if_neg (by omega), if_neg (by omega)]
  rw [if_neg k3]
  by_cases k4 : b0 < 248
  · rw [if_pos k4]
    by_cases k5 : 1 < n ∧ b1 / 64 = 2
    · rw [if_pos k5]
      by_cases k6 : 2 < n ∧ b2 / 64 = 2
      · rw [if_pos k6]
        by_cases k7 : 3 < n ∧ b3 / 64 = 2
        · rw [if_pos k7]
          simp only [tailU]
          rw [if_neg (show ¬ b0 < 128 by omega), if_neg (show ¬ (b0 / 32 = 6 ∧ 1 < n ∧ b1 / 64 = 2) by omega), if_neg (show ¬ (b0 / 16 = 14 ∧ (1 < n ∧ b1 / 64 = 2) ∧ 2 < n ∧ b2 / 64 = 2) by omega), if_pos (show b0 / 8 = 30 ∧ (1 < n ∧ b1 / 64 = 2) ∧ (2 < n ∧ b2 / 64 = 2) ∧ 3 < n ∧ b3 / 64 = 2 by omega), fixU_keep _ _ 4 (by omega)]
          rw [show ((b0 % 8 * 64 + b1 % 64) * 64 + b2 % 64) * 64 + b3 % 64 = b0 % 8 * 262144 + b1 % 64 * 4096 + b2 % 64 * 64 + b3 % 64 by omega]
          generalize b0 % 8 * 262144 + b1 % 64 * 4096 + b2 % 64 * 64 + b3 % 64 = y
          split <;> split <;> first | rfl | omega
        · rw [if_neg k7, if_neg (show ¬ b0 < 128 by omega), if_neg (by omega), if_neg (by omega), if_neg (by omega)]
      · rw [if_neg k6, if_neg (show ¬ b0 < 128 by omega), if_neg (by omega), if_neg (by omega), if_neg (by omega)]
    · rw [if_neg k5, if_neg (show ¬ b0 < 128 by omega), if_neg (by omega), if_neg (by omega), if_neg (by omega)]
  · rw [if_neg k4]
    unfold tailU
    rw [if_pos (by omega), if_neg (show ¬ b0 < 128 by omega), if_neg (by omega), if_neg (by omega), if_neg (by omega)]

/-! ### Numbers -/
def isI (o : Option CV) (k : IntKind) (p : Int → Bool) : Bool := match o with
  | some (.i k' r) => keq k k' && p r
  | _ => false
theorem isI_elim {o : Option CV} {k : IntKind} {p : Int → Bool} (h : isI o k p = true) : ∃ r, o = some (.i k r) ∧ p r = true := by
  unfold isI at h
  split at h
  · rename_i k' r
    rw [Bool.and_eq_true, keq_iff] at h
    obtain ⟨rfl, h⟩ := h
    exact ⟨r, rfl, h⟩
  · cases h
theorem and192 : ∀ x : Fin 256, isI (intBin .and .u8 ((x.val : Nat) : Int) 192) .u8 (fun r => decide (r = 128) == decide (x.val / 64 = 2)) = true := by decide +kernel
theorem and63 : ∀ x : Fin 256, isI (intBin .and .u8 ((x.val : Nat) : Int) 63) .u8 (fun r => decide (r = ((x.val % 64 : Nat) : Int))) = true := by decide +kernel
theorem and31 : ∀ x : Fin 256, isI (intBin .and .i32 ((x.val : Nat) : Int) 31) .i32 (fun r => decide (r = ((x.val % 32 : Nat) : Int))) = true := by decide +kernel
theorem and15 : ∀ x : Fin 256, isI (intBin .and .i32 ((x.val : Nat) : Int) 15) .i32 (fun r => decide (r = ((x.val % 16 : Nat) : Int))) = true := by decide +kernel
theorem and7 : ∀ x : Fin 256, isI (intBin .and .i32 ((x.val : Nat) : Int) 7) .i32 (fun r => decide (r = ((x.val % 8 : Nat) : Int))) = true := by decide +kernel
theorem wrap64 {x : Int} (h0 : -9223372036854775808 ≤ x) (h1 : x ≤ 9223372036854775807) : IntKind.i64.wrap x = x := by
  simp only [IntKind.wrap, IntKind.signed, IntKind.bits]; simp; omega
theorem wrap32 {x : Int} (h0 : -2147483648 ≤ x) (h1 : x ≤ 2147483647) : IntKind.i32.wrap x = x := by
  simp only [IntKind.wrap, IntKind.signed, IntKind.bits]; simp; omega
theorem or6 (x y : Nat) (hx : x < 2000000) (hy : y < 64) : shiftA .shl .i32 (x : Int) 6 = some (.i .i32 ((x * 64 : Nat) : Int)) ∧ intBin .or .i32 ((x * 64 : Nat) : Int) (y : Int) = some (.i .i32 ((x * 64 + y : Nat) : Int)) := by
  constructor
  · simp only [shiftA, mkI_eq, wrapF_eq]
    have h : ilt 6 0 = false := rfl
    have e : (x : Int) * 2 ^ (min (6 : Int).toNat IntKind.i32.bits) = ((x * 64 : Nat) : Int) := by
      have : min (6 : Int).toNat IntKind.i32.bits = 6 := rfl
      rw [this]; omega
    rw [h, cond_false, e, wrap32 (by omega) (by omega)]
  · simp only [intBin, mkI_eq]
    have b1 : BitVec.ofInt IntKind.i32.bits ((x * 64 : Nat) : Int) = BitVec.ofNat 32 (x * 64) := by
      show BitVec.ofInt 32 _ = _
      rw [BitVec.ofInt_natCast]
    have b2 : BitVec.ofInt IntKind.i32.bits (y : Int) = BitVec.ofNat 32 y := by
      show BitVec.ofInt 32 _ = _
      rw [BitVec.ofInt_natCast]
    have e : (BitVec.ofInt IntKind.i32.bits ((x * 64 : Nat) : Int) ||| BitVec.ofInt IntKind.i32.bits (y : Int)).toNat = x * 64 + y := by
      rw [b1, b2]
      show (BitVec.ofNat 32 (x * 64) ||| BitVec.ofNat 32 y).toNat = _
      rw [BitVec.toNat_or, BitVec.toNat_ofNat, BitVec.toNat_ofNat, Nat.mod_eq_of_lt (by omega), Nat.mod_eq_of_lt (by omega)]
      have := Nat.shiftLeft_add_eq_or_of_lt (i := 6) (b := y) (by omega) x
      rw [Nat.shiftLeft_eq, show x * 2 ^ 6 = x * 64 from rfl] at this
      exact this.symm
    rw [e, wrap32 (by omega) (by omega)]
section
variable {w0 : World} {A : AW}
/-- pollardref01.next -/
theorem next_run {v : CV} {l : List Nat} (hb : Bs A v l) (j : Nat) (hj : j < 1000000000000) :
    F Tryz.prog w0 61 [v, .i .i64 (j : Int)] A (fun r A' => A' = A ∧ r = if cont l j then .t [.i .i32 ((byt l j % 64 : Nat) : Int), .b true] else .t [.i .i32 0, .b false]) := by
  refine F.code 24 (by kernel_rfl) (v61 ⟨rfl, rfl, trivial⟩ ?_)
  refine ⟨l.length, hb.sl.len_ok u22, vcIf.decide (fun h => ?_) (fun h => ?_)⟩
  · have hc : cont l j = false := by simp only [cont, decide_eq_false_iff_not]; intro e; have := e.1; simp at h; omega
    rw [hc]; exact ⟨rfl, rfl⟩
  · have hlt : j < l.length := by simp at h; omega
    obtain ⟨b, o, h1, h2⟩ := hb.at (P := Tryz.prog) u22 s5 a5 hlt .i64
    rw [byt_get hlt] at h2
    have hx := byt_lt hb.lt j
    obtain ⟨r, g1, g2⟩ := isI_elim (and192 ⟨byt l j, hx⟩)
    obtain ⟨q, g3, g4⟩ := isI_elim (and63 ⟨byt l j, hx⟩)
    simp only [beq_iff_eq, decide_eq_decide] at g2
    simp only [decide_eq_true_eq] at g4
    refine ⟨b, o, h1, _, h2, r, g1, vcIf.decide (fun h3 => ?_) (fun h3 => ?_)⟩
    · have hc : cont l j = false := by simp only [cont, decide_eq_false_iff_not]; intro e; exact h3 (g2.2 e.2)
      rw [hc]; exact ⟨rfl, rfl⟩
    · have hc : cont l j = true := by simp only [cont, decide_eq_true_eq]; exact ⟨hlt, g2.1 (by simpa using h3)⟩
      refine ⟨b, o, h1, _, h2, q, g3, _, rfl, ?_⟩
      rw [hc, g4, wrap32 (by omega) (by omega)]
      exact ⟨rfl, rfl⟩
/-- What is asked behind the loop of pollardref01.At. -/
theorem at_tail {fr : T CV} {Q : CV → AW → Prop} (c n x least : Nat) (hc : c < 256) (hx : x < 1000000000) (hl : least < 100000) (hn : n < 5)
    (hfr : Fr fr [(6, .i .i32 (c : Int)), (7, .i .i64 (n : Int)), (8, .i .i32 (x : Int)), (9, .i .i32 (least : Int))])
    (hQ : Q (.t [.i .i32 ((tailU c n x least).1 : Int), .i .i64 ((tailU c n x least).2 : Int)]) A) :
    W Tryz.prog w0 (subC [1, 1, 1, 1, 1, 1, 1, 1, 1, 1] (codeOf Tryz.prog 29)) 99 ⟨fr, A⟩ (endF Tryz.prog (resOf Tryz.prog 29) Q) := by
  have hw : IntKind.i32.wrap (1114112 + (c : Int)) = ((1114112 + c : Nat) : Int) := by rw [wrap32 (by omega) (by omega)]; simp
  have hs : ((n = 1 ∧ 128 ≤ c) ∨ x < least ∨ 1114111 < x ∨ (55296 ≤ x ∧ x ≤ 57343)) → Q (.t [.i .i32 ((1114112 + c : Nat) : Int), .i .i64 1]) A := fun h => by
    unfold tailU at hQ; rw [if_pos h] at hQ; exact hQ
  have hk : ¬ ((n = 1 ∧ 128 ≤ c) ∨ x < least ∨ 1114111 < x ∨ (55296 ≤ x ∧ x ≤ 57343)) → Q (.t [.i .i32 (x : Int), .i .i64 (n : Int)]) A := fun h => by
    unfold tailU at hQ; rw [if_neg h] at hQ; exact hQ
  refine v29_1111111111 hfr ?_
  repeat' (first | refine vcIf.decide (fun _ => ?_) (fun _ => ?_) | exact ⟨_, hw.symm, hs (by omega)⟩ | exact hk (by omega))
theorem goOn_some {l : List Nat} {i d j x y : Nat} (h : goOn l i d j x = some y) (hl : Byt l) : y < (x + 1) * 64 ^ d := by
  induction d generalizing j x with
  | zero => simp [goOn] at h; omega
  | succ d ih =>
    simp only [goOn] at h
    split at h
    · have := ih h
      have h1 : x * 64 + byt l (i + j) % 64 + 1 ≤ (x + 1) * 64 := by omega
      have h2 := Nat.mul_le_mul_right (64 ^ d) h1
      rw [Nat.pow_succ, Nat.mul_comm (64 ^ d) 64, ← Nat.mul_assoc]
      omega
    · cases h
/-- pollardref01.At's loop, and what is behind it. -/
theorem at_loop {v : CV} {l : List Nat} (hb : Bs A v l) (hlen : l.length < 100000000000) (i : Nat) (hi : i < l.length) {fr : T CV} {Q : CV → AW → Prop} (n x least : Nat) (hx : x < 256) (hl : least < 100000) (hn : n < 5) (hn0 : 1 ≤ n)
    (hfr : Fr fr [(0, v), (1, .i .i64 (i : Int)), (6, .i .i32 (byt l i : Int)), (7, .i .i64 (n : Int)), (8, .i .i32 (x : Int)), (9, .i .i32 (least : Int))])
    (hQ : Q (.t [.i .i32 ((finU l i n x least).1 : Int), .i .i64 ((finU l i n x least).2 : Int)]) A) :
    WF Tryz.prog w0 (resOf Tryz.prog 29) (subC [1, 1, 1, 1, 1, 1, 1, 1, 1] (codeOf Tryz.prog 29)) 99 fr A Q := by
  have hc := byt_lt hb.lt i
  refine v29_111111111 hfr fun fr0 hfr0 => ?_
  refine W.for_ (fun m fr' A' => ∃ (d j y : Nat), m = d ∧ A' = A ∧ d + j = n ∧ 1 ≤ j ∧ y < 256 * 64 ^ (j - 1) ∧ goOn l i d j y = goOn l i (n - 1) 1 x ∧
    Fr fr' [(0, v), (1, .i .i64 (i : Int)), (6, .i .i32 (byt l i : Int)), (7, .i .i64 (n : Int)), (8, .i .i32 (y : Int)), (9, .i .i32 (least : Int)), (10, .i .i64 (j : Int))]) (m := n - 1) ⟨n - 1, 1, x, rfl, rfl, by omega, by omega, by simp; omega, rfl, hfr0⟩ ?_
  rintro m fr1 A1 ⟨d, j, y, rfl, rfl, hd, hj, hy, hg, hf⟩
  refine v29_1111111110100 hf (vcIf.decide (fun h => ?_) (fun h => ?_))
  · have hjn : j < n := by omega
    obtain ⟨d', rfl⟩ : ∃ d', m = d' + 1 := ⟨m - 1, by omega⟩
    have hij : IntKind.i64.wrap ((i : Int) + (j : Int)) = ((i + j : Nat) : Int) := by rw [wrap64 (by omega) (by omega)]; simp
    refine ⟨_, hij.symm, (next_run (w0 := w0) hb (i + j) (by omega)).mono ?_⟩
    rintro r A2 ⟨rfl, rfl⟩
    simp only [goOn] at hg
    cases hct : cont l (i + j) with
    | false =>
      rw [hct] at hg
      have hw : IntKind.i32.wrap (1114112 + (byt l i : Int)) = ((1114112 + byt l i : Nat) : Int) := by rw [wrap32 (by omega) (by omega)]; simp
      refine ⟨0, false, rfl, vcIf.of (fun _ => ⟨_, hw.symm, fun fr2 h2 => ?_⟩) (fun e => by cases e)⟩
      have hQ' : Q (.t [.i .i32 ((1114112 + byt l i : Nat) : Int), .i .i64 1]) A2 := by
        simp only [finU, ← hg] at hQ
        exact hQ
      exact endF_two (by kernel_rfl) h2 hQ' (.inl rfl)
    | true =>
      rw [hct] at hg
      have hj4 : j < 4 := by omega
      have hyy : y < 2000000 := by
        have : j - 1 = 0 ∨ j - 1 = 1 ∨ j - 1 = 2 := by omega
        rcases this with e | e | e <;> rw [e] at hy <;> simp at hy <;> omega
      have hy2 := byt_lt hb.lt (i + j)
      obtain ⟨o1, o2⟩ := or6 y (byt l (i + j) % 64) hyy (by omega)
      have hw : IntKind.i64.wrap ((j : Int) + 1) = ((j + 1 : Nat) : Int) := by rw [wrap64 (by omega) (by omega)]; simp
      refine ⟨_, true, rfl, vcIf.of (fun e => by cases e) (fun _ => ⟨_, o1, _, o2, _, hw.symm, fun fr2 h2 => ⟨d', by omega, d', j + 1, _, rfl, rfl, by omega, by omega, ?_, hg, h2⟩⟩)⟩
      obtain ⟨q, rfl⟩ : ∃ q, j = q + 1 := ⟨j - 1, by omega⟩
      simp only [Nat.add_sub_cancel] at hy ⊢
      rw [Nat.pow_succ]
      omega
  · obtain rfl : m = 0 := by omega
    obtain rfl : j = n := by omega
    have hyy : y < 1000000000 := by
      have : j - 1 = 0 ∨ j - 1 = 1 ∨ j - 1 = 2 ∨ j - 1 = 3 := by omega
      rcases this with e | e | e | e <;> rw [e] at hy <;> simp at hy <;> omega
    intro fr2 h2
    simp only [goOn] at hg
    simp only [finU, ← hg] at hQ
    exact at_tail _ _ _ _ hc hyy hl hn h2 hQ
/-- ████ pollardref01.At. -/
theorem refAt_run {v : CV} {l : List Nat} (hb : Bs A v l) (hlen : l.length < 100000000000) (i : Nat) (hi : i < l.length) :
    F Tryz.prog w0 29 [v, .i .i64 (i : Int)] A (fun r A' => A' = A ∧ r = .t [.i .i32 ((unitAt l i).1 : Int), .i .i64 ((unitAt l i).2 : Int)]) := by
  have hx := byt_lt hb.lt i
  obtain ⟨b, o, h1, h2⟩ := hb.at (P := Tryz.prog) u22 s5 a5 hi .i64
  rw [byt_get hi] at h2
  rw [← refAt_eq l hb.lt i]
  unfold refAt
  have e6 : IntKind.i32.wrap (Int.ofNat (byt l i)) = ((byt l i : Nat) : Int) := wrap32 (by simp only [Int.ofNat_eq_natCast]; omega) (by simp only [Int.ofNat_eq_natCast]; omega)
  obtain ⟨r1, g1, g2⟩ := isI_elim (and31 ⟨byt l i, hx⟩)
  obtain ⟨r2, g3, g4⟩ := isI_elim (and15 ⟨byt l i, hx⟩)
  obtain ⟨r3, g5, g6⟩ := isI_elim (and7 ⟨byt l i, hx⟩)
  simp only [decide_eq_true_eq] at g2 g4 g6
  subst g2; subst g4; subst g6
  refine F.code 99 (by kernel_rfl) (v29 ⟨rfl, rfl, trivial⟩ ?_)
  refine vcIf.decide (fun h => by omega) fun _ => ⟨l.length, hb.sl.len_ok u22, vcIf.decide (fun h => by simp at h; omega) fun _ => ⟨b, o, h1, _, h2, _, e6.symm, ?_⟩⟩
  by_cases k1 : byt l i < 192
  · rw [if_pos k1]
    refine vcIf.decide (fun h => by omega) fun _ fr1 f1 => ?_
    refine v29_1111111 f1 (vcIf.decide (fun h => by omega) fun _ fr2 f2 => ?_)
    refine v29_11111111 f2 (vcIf.decide (fun h => by omega) fun _ fr3 f3 => ?_)
    exact at_loop hb hlen i hi 1 (byt l i) 0 (by omega) (by omega) (by omega) (by omega) f3 ⟨rfl, rfl⟩
  rw [if_neg k1]
  by_cases k2 : byt l i < 224
  · rw [if_pos k2]
    refine vcIf.decide (fun _ => vcIf.decide (fun _ => ⟨_, g1, fun fr1 f1 => ?_⟩) fun h => by omega) fun h => by omega
    refine v29_1111111 f1 (vcIf.decide (fun h => by omega) fun _ fr2 f2 => ?_)
    refine v29_11111111 f2 (vcIf.decide (fun h => by omega) fun _ fr3 f3 => ?_)
    exact at_loop hb hlen i hi 2 (byt l i % 32) 128 (by omega) (by omega) (by omega) (by omega) f3 ⟨rfl, rfl⟩
  rw [if_neg k2]
  by_cases k3 : byt l i < 240
  · rw [if_pos k3]
    refine vcIf.decide (fun _ => vcIf.decide (fun h => by omega) fun _ fr1 f1 => ?_) fun h => by omega
    refine v29_1111111 f1 (vcIf.decide (fun _ => vcIf.decide (fun _ => ⟨_, g3, fun fr2 f2 => ?_⟩) fun h => by omega) fun h => by omega)
    refine v29_11111111 f2 (vcIf.decide (fun h => by omega) fun _ fr3 f3 => ?_)
    exact at_loop hb hlen i hi 3 (byt l i % 16) 2048 (by omega) (by omega) (by omega) (by omega) f3 ⟨rfl, rfl⟩
  rw [if_neg k3]
  by_cases k4 : byt l i < 248
  · rw [if_pos k4]
    refine vcIf.decide (fun _ => vcIf.decide (fun h => by omega) fun _ fr1 f1 => ?_) fun h => by omega
    refine v29_1111111 f1 (vcIf.decide (fun _ => vcIf.decide (fun h => by omega) fun _ fr2 f2 => ?_) fun h => by omega)
    refine v29_11111111 f2 (vcIf.decide (fun _ => vcIf.decide (fun _ => ⟨_, g5, fun fr3 f3 => ?_⟩) fun h => by omega) fun h => by omega)
    exact at_loop hb hlen i hi 4 (byt l i % 8) 65536 (by omega) (by omega) (by omega) (by omega) f3 ⟨rfl, rfl⟩
  · rw [if_neg k4]
    refine vcIf.decide (fun _ => vcIf.decide (fun h => by omega) fun _ fr1 f1 => ?_) fun h => by omega
    refine v29_1111111 f1 (vcIf.decide (fun _ => vcIf.decide (fun h => by omega) fun _ fr2 f2 => ?_) fun h => by omega)
    refine v29_11111111 f2 (vcIf.decide (fun _ => vcIf.decide (fun h => by omega) fun _ fr3 f3 => ?_) fun h => by omega)
    exact at_loop hb hlen i hi 1 (byt l i) 0 (by omega) (by omega) (by omega) (by omega) f3 ⟨rfl, rfl⟩
end
end Go.Proofs.R31
