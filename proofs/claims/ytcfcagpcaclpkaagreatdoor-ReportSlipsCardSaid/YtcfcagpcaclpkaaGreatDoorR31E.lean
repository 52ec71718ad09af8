/-
  Quoted texts: what the document's function computes. Conditions: none.
-/
import Derived.Test.YtcfcagpcaclpkaaGreatDoorR31D
set_option maxRecDepth 100000
namespace Go.Proofs.R31
open Go Go.Ce
theorem u212 : Tryz.prog.underlying 212 = some (.slice 21) := by kernel_rfl
theorem u21 : Tryz.prog.underlying 21 = some (.int .i32) := by kernel_rfl
/-! ### Plain words -/
def hexD (d : Nat) : Nat := if d < 10 then 48 + d else 87 + d
def hexT (u : Nat) : List Nat := if u < 16 then [hexD u] else [hexD (u / 16), hexD (u % 16)]
def writtenN (u : Nat) : List Nat :=
  if u = 10 then [92, 110] else if u = 13 then [92, 114] else if u = 9 then [92, 116] else if u = 92 then [92, 92] else if u = 39 then [92, 39]
  else if u < 32 ∨ u = 127 then [92, 117, 123] ++ hexT u ++ [125] else if 1114112 ≤ u then [92, 117, 123, 102, 102, 102, 100, 125] else encL (u : Int)
def quoteN (s : List Nat) : List Nat := [39] ++ (unitsFrom s 0).flatMap (fun u => writtenN u.2.1) ++ [39]
theorem encL_len (n : Int) : (encL n).length ≤ 4 := by
  unfold encL Utf8.encode
  simp only [List.length_map, Array.length_toList]
  repeat' split
  all_goals simp
theorem hexT_len (u : Nat) : (hexT u).length ≤ 2 := by unfold hexT; split <;> simp
theorem writtenN_len (u : Nat) : (writtenN u).length ≤ 8 := by
  have h1 := hexT_len u
  have h2 := encL_len (u : Int)
  unfold writtenN
  repeat' split
  all_goals first | (simp; done) | (simp; omega) | omega
theorem quoteN_len {s : List Nat} (hs : Byt s) : (quoteN s).length ≤ 8 * s.length + 2 := by
  have h1 := unitsFrom_len hs _ 0 rfl
  have h2 : ∀ us : List (Nat × Nat × Nat), (us.flatMap fun u => writtenN u.2.1).length ≤ 8 * us.length := by
    intro us
    induction us with
    | nil => simp
    | cons u us ih => have := writtenN_len u.2.1; simp only [List.flatMap_cons, List.length_append, List.length_cons]; omega
  have h3 := h2 (unitsFrom s 0)
  unfold quoteN
  simp only [List.length_append, List.length_singleton]
  omega
section
variable {w0 : World} {A : AW}
theorem sliceS {l : List Nat} {t : TypeId} {lo hi : Nat} {k k' : IntKind} (ht : Tryz.prog.underlying t = some .string) (h1 : lo ≤ hi) (h2 : hi ≤ l.length) :
    sliceV Tryz.prog A t (.s l) (some (.i k (lo : Int))) (some (.i k' (hi : Int))) none = some (.s ((l.drop lo).take (hi - lo))) := by
  have b1 : Nat.ble lo hi = true := by rw [Nat.ble_eq]; exact h1
  have b2 : Nat.ble hi (lenN l) = true := by rw [Nat.ble_eq, lenN_eq]; exact h2
  have hs := subN_of (l := l) (r := (l.drop lo).take (hi - lo)) (o := lo) (fun j hj => by
    simp at hj
    rw [List.getElem?_take_of_lt (by omega), List.getElem?_drop])
  have e : ((l.drop lo).take (hi - lo)).length = hi - lo := by simp; omega
  rw [e] at hs
  have c1 : boundV (some (.i k (lo : Int))) 0 = some lo := rfl
  have c2 : boundV (some (.i k' (hi : Int))) (lenN l) = some hi := rfl
  simp only [sliceV, ht, c1, c2, b1, b2, Bool.and_self, cond_true, hs]
theorem hexD_at (d : Nat) (h : d < 16) : (([48, 49, 50, 51, 52, 53, 54, 55, 56, 57, 97, 98, 99, 100, 101, 102] : List Nat).drop d).take (d + 1 - d) = [hexD d] := by
  have : ∀ x : Fin 16, (([48, 49, 50, 51, 52, 53, 54, 55, 56, 57, 97, 98, 99, 100, 101, 102] : List Nat).drop x.val).take (x.val + 1 - x.val) = [hexD x.val] := by decide
  exact this ⟨d, h⟩
/-- pollardref03.digits -/
theorem hex_run (u : Nat) (hu : u < 256) : F Tryz.prog w0 89 [.i .i32 (u : Int)] A (fun r A' => A' = A ∧ r = .s (hexT u)) := by
  refine F.code 22 (by kernel_rfl) (v89 ⟨rfl, trivial⟩ fun fr0 f0 => ?_)
  refine WF.for_ (fun m fr A' => ∃ (k : Nat) (s : List Nat), m = k ∧ A' = A ∧ Fr fr [(0, .i .i32 (k : Int)), (3, .s s)] ∧ ((k = u ∧ s = []) ∨ (k < 16 ∧ k = u / 16 ∧ 16 ≤ u ∧ s = [hexD (u % 16)]))) (m := u) ⟨u, [], rfl, rfl, f0, .inl ⟨rfl, rfl⟩⟩ ?_
  rintro m fr1 A1 ⟨k, s, rfl, rfl, hf, hk⟩
  refine v89_11000 hf (vcIf.decide (fun h => ?_) (fun h fr2 h2 => ?_))
  · have hb : 16 ≤ m := by omega
    obtain ⟨rfl, rfl⟩ : m = u ∧ s = [] := by rcases hk with h | h; exact h; omega
    have e1 : (m : Int).tmod 16 = ((m % 16 : Nat) : Int) := by rw [Int.tmod_eq_emod_of_nonneg (by omega)]; omega
    have e2 : IntKind.i32.wrap (((m % 16 : Nat) : Int) + 1) = ((m % 16 + 1 : Nat) : Int) := by rw [wrap32 (by omega) (by omega)]; omega
    have e3 : IntKind.i32.wrap ((m : Int).tdiv 16) = ((m / 16 : Nat) : Int) := by
      have : (m : Int).tdiv 16 = ((m / 16 : Nat) : Int) := by rw [Int.tdiv_eq_ediv_of_nonneg (by omega)]; omega
      rw [this, wrap32 (by omega) (by omega)]
    refine ⟨_, e1.symm, _, e1.symm, _, e2.symm, _, sliceS u9 (by omega) (by simp; omega), by rw [hexD_at _ (by omega)]; simp, _, e3.symm, fun fr2 h2 => ⟨m / 16, by omega, m / 16, _, rfl, rfl, h2, .inr ⟨by omega, rfl, hb, ?_⟩⟩⟩
    rw [hexD_at _ (by omega)]; simp
  · have hb : m < 16 := by omega
    have e1 : IntKind.i32.wrap ((m : Int) + 1) = ((m + 1 : Nat) : Int) := by rw [wrap32 (by omega) (by omega)]; omega
    have hl : s.length ≤ 1 := by rcases hk with ⟨_, rfl⟩ | ⟨_, _, _, rfl⟩ <;> simp
    refine v89_111 h2 ⟨_, e1.symm, _, sliceS u9 (by omega) (by simp; omega), by rw [hexD_at _ hb]; simp; omega, rfl, ?_⟩
    rw [hexD_at _ hb]
    unfold hexT
    rcases hk with ⟨rfl, rfl⟩ | ⟨_, rfl, h16, rfl⟩
    · rw [if_pos hb]; rfl
    · rw [if_neg (by omega)]; rfl
/-- pollardref03.utf -/
theorem utf_run (u : Int) : F Tryz.prog w0 90 [.i .i32 u] A (fun r A' => A' = A ∧ r = .s (encL u)) := by
  refine F.forget (F.code 6 (by kernel_rfl) (v90 ⟨rfl, trivial⟩ ⟨[.i .i32 u], by kernel_rfl, encL u, ?_, Ext'.push _ _, rfl, rfl⟩))
  have h1 : elemsA (A.push (AObj.mk [.i .i32 u] 21 0 0 false false)) 1 (CV.se A.next 0 1 1) = some [.i .i32 u] := by simp only [elemsA, cellsA, push_same]; rfl
  have h2 : runesA [.i .i32 u] = some (encL u) := by simp only [runesA, encA_eq, List.append_nil]
  simp only [convA, u212, u21, u9, h1, h2]
/-- ████ pollardref03.written, within single quotes. -/
theorem written_run (u : Nat) (hu : u < 2000000) : F Tryz.prog w0 57 [.i .i32 (u : Int), .s [39]] A (fun r A' => A' = A ∧ r = .s (writtenN u)) := by
  refine F.code 46 (by kernel_rfl) (v57 ⟨rfl, rfl, trivial⟩ ?_)
  unfold writtenN
  refine vcIf.decide (fun h => ⟨rfl, by rw [if_pos (by omega)]⟩) fun h1 => vcIf.decide (fun h => ⟨rfl, by rw [if_neg (by omega), if_pos (by omega)]⟩) fun h2 => vcIf.decide (fun h => ⟨rfl, by rw [if_neg (by omega), if_neg (by omega), if_pos (by omega)]⟩) fun h3 =>
    vcIf.decide (fun h => ⟨rfl, by rw [if_neg (by omega), if_neg (by omega), if_neg (by omega), if_pos (by omega)]⟩) fun h4 fr0 f0 => ?_
  rw [if_neg (by omega), if_neg (by omega), if_neg (by omega), if_neg (by omega)]
  refine W.for_ (fun m fr A' => A' = A ∧ ((m = 1 ∧ Fr fr [(0, .i .i32 (u : Int)), (1, .s [39]), (5, .i .i64 ((0 : Nat) : Int))]) ∨ (m = 0 ∧ u ≠ 39 ∧ Fr fr [(0, .i .i32 (u : Int)), (1, .s [39]), (5, .i .i64 ((1 : Nat) : Int))]))) (m := 1) ⟨rfl, .inl ⟨rfl, f0⟩⟩ ?_
  rintro m fr1 A1 ⟨rfl, hm⟩
  rcases hm with ⟨rfl, hf⟩ | ⟨rfl, hne, hf⟩
  · refine v57_111110100 hf ⟨1, by kernel_rfl, vcIf.decide (fun _ => ?_) (fun h => absurd (by decide) h)⟩
    refine ⟨39, by kernel_rfl, 39, by rw [wrap32 (by omega) (by omega)], ?_⟩
    refine vcIf.decide (fun h => ?_) (fun h => ?_)
    · refine ⟨((1 : Nat) : Int), by rw [wrap64 (by omega) (by omega)]; rfl, _, sliceS (l := [39]) (lo := 0) (hi := 1) u9 (by omega) (by simp), by simp, fun fr2 h2 => ?_⟩
      refine forPost_ret (endF_one (by kernel_rfl) h2 ?_ (.inl rfl))
      refine ⟨rfl, ?_⟩
      rw [if_pos (by omega)]; rfl
    · exact ⟨((1 : Nat) : Int), by rw [wrap64 (by omega) (by omega)]; rfl, fun fr2 h2 => ⟨0, by omega, rfl, .inr ⟨rfl, by omega, h2⟩⟩⟩
  · refine v57_111110100 hf ⟨1, by kernel_rfl, vcIf.decide (fun h => absurd h (by decide)) (fun h fr2 h2 => ?_)⟩
    rw [if_neg hne]
    have hl := hexT_len u
    refine v57_111111 h2 (vcIf.decide (fun h5 => ?_) fun h5 => vcIf.decide (fun h6 => ?_) fun h6 => vcIf.decide (fun h7 => ?_) fun h7 => ?_)
    · refine (hex_run u (by omega)).mono ?_
      rintro r A' ⟨rfl, rfl⟩
      exact ⟨_, rfl, by omega, by simp; omega, rfl, by rw [if_pos (by omega)]⟩
    · refine (hex_run u (by omega)).mono ?_
      rintro r A' ⟨rfl, rfl⟩
      exact ⟨_, rfl, by omega, by simp; omega, rfl, by rw [if_pos (by omega)]⟩
    · exact ⟨rfl, by rw [if_neg (by omega), if_pos (by omega)]⟩
    · refine (utf_run (u : Int)).mono ?_
      rintro r A' ⟨rfl, rfl⟩
      exact ⟨_, rfl, rfl, by rw [if_neg (by omega), if_neg (by omega)]⟩
theorem unitsFrom_lt {l : List Nat} (hl : Byt l) : ∀ (d i : Nat), l.length - i = d → ∀ u ∈ unitsFrom l i, u.2.1 < 1114368 := by
  intro d
  induction d using Nat.strongRecOn with
  | ind d ih =>
    intro i hd u hu
    by_cases hi : i < l.length
    · obtain ⟨h1, h2, h3, h4⟩ := unitAt_n l hl i hi
      rw [unitsFrom_step hl hi] at hu
      rcases List.mem_cons.1 hu with rfl | hu
      · exact h4
      · exact ih (l.length - (i + (unitAt l i).2)) (by omega) _ rfl u hu
    · rw [unitsFrom_end hi] at hu; cases hu
/-- ████ pollardref03.Quote. -/
theorem refQuote_run {s : List Nat} (hs : Byt s) (hA : A.Fresh) (hlen : s.length < 1000000000) :
    F Tryz.prog w0 21 [.s s] A (fun r A' => A' = A ∧ r = .s (quoteN s)) := by
  have hul := unitsFrom_len hs _ 0 rfl
  obtain ⟨v, A1, g1, g2, g3, g4⟩ := s2b_ok (P := Tryz.prog) (A := A) hs (by omega) u9 u22 u5 s5
  have hA1 := g4 hA
  refine F.forget (F.code 25 (by kernel_rfl) (v21 ⟨rfl, trivial⟩ ⟨v, A1, g1, (units_run g3 hA1 hlen).mono ?_⟩))
  rintro r A2 ⟨hx, hA2, hsl⟩
  refine ⟨r, rfl, fun fr0 f0 => ?_⟩
  refine W.for_ (fun m fr A' => ∃ (k : Nat) (out : List Nat), m = (unitsFrom s 0).length - k ∧ A' = A2 ∧ k ≤ (unitsFrom s 0).length ∧ out ++ ((unitsFrom s 0).drop k).flatMap (fun u => writtenN u.2.1) ++ [39] = quoteN s ∧ out.length ≤ 8 * k + 1 ∧
    Fr fr [(3, .s out), (4, r), (5, .i .i64 (k : Int))]) (m := (unitsFrom s 0).length) ⟨0, [39], rfl, rfl, by omega, rfl, by simp, f0⟩ ?_
  rintro m fr1 A3 ⟨k, out, rfl, rfl, hk, ho, hol, hf⟩
  refine v21_1110100 hf ⟨_, hsl.len_ok u116, vcIf.decide (fun h => ?_) (fun h fr2 h2 => ?_)⟩
  · have hkl : k < (unitsFrom s 0).length := by simp at h; omega
    obtain ⟨b, o, e1, e2⟩ := hsl.addr (P := Tryz.prog) u116 s120 hkl .i64
    have e3 := e2 1 (by omega)
    rw [unitC_get _ _ _ hkl (by omega)] at e3
    have hd : (unitsFrom s 0).drop k = (unitsFrom s 0)[k] :: (unitsFrom s 0).drop (k + 1) := List.drop_eq_getElem_cons hkl
    have hu := unitsFrom_lt hs _ 0 rfl _ (List.getElem_mem hkl)
    rw [hd, List.flatMap_cons] at ho
    generalize (unitsFrom s 0)[k] = u at *
    have w1 : IntKind.i64.wrap ((k : Int) + 1) = ((k + 1 : Nat) : Int) := by rw [wrap64 (by omega) (by omega)]; simp
    have hw := writtenN_len u.2.1
    refine ⟨b, o, e1, _, load_cell a21 e3, (written_run u.2.1 (by omega)).mono ?_⟩
    rintro q A' ⟨rfl, rfl⟩
    exact ⟨_, rfl, by omega, _, w1.symm, fun fr3 h3 => ⟨_, by omega, k + 1, _, rfl, rfl, hkl, by rw [← ho]; simp, by simp; omega, h3⟩⟩
  · have hkl : ¬ k < (unitsFrom s 0).length := by simp at h; omega
    rw [List.drop_of_length_le (by omega)] at ho
    refine v21_1111 h2 ⟨by omega, g2.trans hx, rfl, ?_⟩
    rw [← ho]; simp
end
end Go.Proofs.R31
