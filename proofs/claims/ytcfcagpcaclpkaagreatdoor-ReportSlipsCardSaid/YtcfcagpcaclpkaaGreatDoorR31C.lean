/-
  Units and places: what the document's functions compute. Conditions: the bytes lie in memory.
-/
import Derived.Test.YtcfcagpcaclpkaaGreatDoorR31B
set_option maxRecDepth 100000
namespace Go.Proofs.R31
open Go Go.Ce
theorem u116 : Tryz.prog.underlying 116 = some (.slice 120) := by kernel_rfl
theorem s120 : sizeP Tryz.prog 120 = some 3 := by kernel_rfl
theorem a21 : aggP Tryz.prog 21 = some false := by kernel_rfl
theorem info_of {P : Program} {t n b : Nat} (h : (P.info? t).map (fun i => (i.size, i.bytes)) = some (n, b)) : ∃ i, P.info? t = some i ∧ i.size = n ∧ i.bytes = b := by
  cases hi : P.info? t with
  | none => rw [hi] at h; cases h
  | some i => rw [hi] at h; simp at h; exact ⟨i, rfl, h⟩
theorem i120 : ∃ i, Tryz.prog.info? 120 = some i ∧ i.size = 3 ∧ i.bytes = 24 := info_of (by kernel_rfl)
theorem z120 : zeroA Tryz.prog 120 = some (.a [.i .i64 0, .i .i32 0, .i .i64 0]) := by kernel_rfl
theorem n116 : notInt (Tryz.prog.underlying 116) = true := by kernel_rfl

theorem decodeN_n (n b0 b1 b2 b3 : Nat) (hn : 1 ≤ n) (h0 : b0 < 256) : 1 ≤ (Lib.decodeN n b0 b1 b2 b3).2 ∧ (Lib.decodeN n b0 b1 b2 b3).2 ≤ n ∧ (Lib.decodeN n b0 b1 b2 b3).2 ≤ 4 ∧ (Lib.decodeN n b0 b1 b2 b3).1 < 1114112 := by
  unfold Lib.decodeN
  repeat' split
  all_goals (simp only; omega)
theorem unitAt_n (l : List Nat) (hl : Byt l) (i : Nat) (hi : i < l.length) : 1 ≤ (unitAt l i).2 ∧ i + (unitAt l i).2 ≤ l.length ∧ (unitAt l i).2 ≤ 4 ∧ (unitAt l i).1 < 1114368 := by
  have hb := byt_lt hl i
  obtain ⟨h1, h2, h3, h4⟩ := decodeN_n (l.length - i) (byt l i) (byt l (i + 1)) (byt l (i + 2)) (byt l (i + 3)) (by omega) hb
  unfold unitAt fixU
  split
  · simp only; omega
  · omega
/-- The units from a place on. -/
def unitsF (l : List Nat) : Nat → Nat → List (Nat × Nat × Nat)
  | 0, _ => []
  | f + 1, i => if i < l.length then (i, unitAt l i) :: unitsF l f (i + (unitAt l i).2) else []
def unitsFrom (l : List Nat) (i : Nat) : List (Nat × Nat × Nat) := unitsF l (l.length - i) i
theorem unitsF_more {l : List Nat} (hl : Byt l) : ∀ (f : Nat) (i : Nat), l.length - i ≤ f → unitsF l f i = unitsF l (l.length - i) i := by
  intro f
  induction f using Nat.strongRecOn with
  | ind f ih =>
    intro i hf
    by_cases hi : i < l.length
    · obtain ⟨h1, h2, _⟩ := unitAt_n l hl i hi
      obtain ⟨g, rfl⟩ : ∃ g, f = g + 1 := ⟨f - 1, by omega⟩
      obtain ⟨q, hq⟩ : ∃ q, l.length - i = q + 1 := ⟨l.length - i - 1, by omega⟩
      rw [hq]
      simp only [unitsF, hi, if_true]
      rw [ih g (by omega) _ (by omega)]
      by_cases hqg : q < g + 1
      · rw [ih q hqg _ (by omega)]
      · omega
    · rw [show l.length - i = 0 by omega]
      cases f with
      | zero => rfl
      | succ f => simp only [unitsF, hi, if_false]
theorem unitsFrom_step {l : List Nat} (hl : Byt l) {i : Nat} (hi : i < l.length) : unitsFrom l i = (i, unitAt l i) :: unitsFrom l (i + (unitAt l i).2) := by
  obtain ⟨h1, h2, _⟩ := unitAt_n l hl i hi
  unfold unitsFrom
  obtain ⟨q, hq⟩ : ∃ q, l.length - i = q + 1 := ⟨l.length - i - 1, by omega⟩
  rw [hq]
  simp only [unitsF, hi, if_true]
  rw [unitsF_more hl q _ (by omega)]
theorem unitsFrom_end {l : List Nat} {i : Nat} (hi : ¬ i < l.length) : unitsFrom l i = [] := by
  unfold unitsFrom; rw [show l.length - i = 0 by omega]; rfl
theorem unitsFrom_len {l : List Nat} (hl : Byt l) : ∀ (d i : Nat), l.length - i = d → (unitsFrom l i).length ≤ d := by
  intro d
  induction d using Nat.strongRecOn with
  | ind d ih =>
    intro i hd
    by_cases hi : i < l.length
    · obtain ⟨h1, h2, _⟩ := unitAt_n l hl i hi
      rw [unitsFrom_step hl hi, List.length_cons]
      have := ih (l.length - (i + (unitAt l i).2)) (by omega) _ rfl
      omega
    · rw [unitsFrom_end hi]; simp
def unitC (u : Nat × Nat × Nat) : List CV := [.i .i64 (u.1 : Int), .i .i32 (u.2.1 : Int), .i .i64 (u.2.2 : Int)]
theorem unitC_len (us : List (Nat × Nat × Nat)) : (us.flatMap unitC).length = us.length * 3 := by
  induction us with
  | nil => rfl
  | cons u us ih => simp only [List.flatMap_cons, List.length_append, ih, List.length_cons, unitC]; simp; omega
theorem unitC_one (us : List (Nat × Nat × Nat)) : allOne (us.flatMap unitC) = true := by
  induction us with
  | nil => rfl
  | cons u us ih => simp only [List.flatMap_cons, unitC, List.cons_append, List.nil_append, allOne, CV.one, ih, Bool.and_self]
theorem unitC_get (us : List (Nat × Nat × Nat)) (k j : Nat) (hk : k < us.length) (hj : j < 3) : (us.flatMap unitC)[k * 3 + j]? = (unitC us[k])[j]? := by
  induction us generalizing k with
  | nil => simp at hk
  | cons u us ih =>
    have hl : (unitC u).length = 3 := rfl
    rw [List.flatMap_cons]
    cases k with
    | zero => rw [Nat.zero_mul, Nat.zero_add, List.getElem?_append_left (by rw [hl]; exact hj)]; rfl
    | succ k =>
      rw [List.getElem?_append_right (by rw [hl]; omega), hl, show (k + 1) * 3 + j - 3 = k * 3 + j by omega]
      simpa using ih k (by simpa using hk)
section
variable {w0 : World} {A : AW}
/-- ████ pollardref01.Units. -/
theorem units_run {v : CV} {l : List Nat} (hb : Bs A v l) (hA : A.Fresh) (hlen : l.length < 1000000000) :
    F Tryz.prog w0 56 [v] A (fun r A' => Ext' A A' ∧ A'.Fresh ∧ Sl A' 3 r (unitsFrom l 0).length ((unitsFrom l 0).flatMap unitC)) := by
  have hul := unitsFrom_len hb.lt _ 0 rfl
  obtain ⟨i, hi, hi1, hi2⟩ := i120
  refine F.code 28 (by kernel_rfl) (v56 ⟨rfl, trivial⟩ fun fr0 f0 => ?_)
  refine WF.for_ (fun m fr A' => ∃ (k : Nat) (done : List (Nat × Nat × Nat)) (r : CV) (b : Option Nat), m = l.length - k ∧ Ext' A A' ∧ A'.Fresh ∧ done ++ unitsFrom l k = unitsFrom l 0 ∧ Own A' 120 3 r done.length (done.flatMap unitC) b ∧ (∀ d, b = some d → A.next ≤ d) ∧ k ≤ l.length ∧ Fr fr [(0, v), (3, r), (4, .i .i64 (k : Int))])
    (m := l.length) ⟨0, [], .ns, none, rfl, Ext'.refl A, hA, rfl, .nil, (fun d h => by cases h), by omega, f0⟩ ?_
  rintro m fr1 A1 ⟨k, done, r, b, rfl, hx, hA1, hu, ho, hbn, hk, hf⟩
  have hb1 := hb.ext hA hx
  refine v56_111000 hf ⟨l.length, hb1.sl.len_ok u22, vcIf.decide (fun h => ?_) (fun h fr2 h2 => ?_)⟩
  · have hkl : k < l.length := by simp at h; omega
    obtain ⟨q1, q2, q3, q4⟩ := unitAt_n l hb.lt k hkl
    refine (refAt_run (w0 := w0) hb1 (by omega) k hkl).mono ?_
    rintro x A2 ⟨rfl, rfl⟩
    have hs := unitsFrom_step hb.lt hkl
    have hdl : done.length < (unitsFrom l 0).length := by rw [← hu, hs]; simp
    refine ⟨_, _, rfl, unitC (k, unitAt l k), by kernel_rfl, unitC (k, unitAt l k), by kernel_rfl, ?_⟩
    have ho' : Own (A2.push ⟨unitC (k, unitAt l k), 120, 0, 0, false, false⟩) 120 i.size r done.length (done.flatMap unitC) b := by
      rw [hi1]; exact ho.keep fun d ob hd hg => (Ext'.push _ _).get hA1 hg
    obtain ⟨v', A', b', g1, g2, g3, g4, g5⟩ := append_own (P := Tryz.prog) (t := 116) (u := 116) (i := i) (x := .se A2.next 0 1 1) (m := 1) (news := unitC (k, unitAt l k)) u116 n116 hi z120 (by rw [hi1]; rfl) (by omega) ho' (unitC_one done)
      (by rw [hi1]; simp only [newsA, elemsA, cellsA, push_same]; rfl) (by rw [hi1]; rfl) rfl (hA1.push _) (by rw [hi2]; omega) (by omega)
    have hw : IntKind.i64.wrap ((k : Int) + ((unitAt l k).2 : Int)) = ((k + (unitAt l k).2 : Nat) : Int) := by rw [wrap64 (by omega) (by omega)]; simp
    refine ⟨v', A', g1, _, hw.symm, fun fr3 h3 => ?_⟩
    rw [hi1] at g2
    refine ⟨l.length - (k + (unitAt l k).2), by omega, k + (unitAt l k).2, done ++ [(k, unitAt l k)], v', b', rfl, ?_, g4, ?_, ?_, ?_, q2, h3⟩
    · refine ⟨Nat.le_trans hx.next (Nat.le_trans (Nat.le_succ _) g3.next), fun d hd => ?_⟩
      have hd1 : d < A2.next := Nat.lt_of_lt_of_le hd hx.next
      rw [g3.same d (Nat.lt_succ_of_lt hd1) (fun e => by have := hbn d e; omega), push_other _ _ (by omega), hx.same d hd]
    · rw [List.append_assoc, List.singleton_append, ← hs, hu]
    · rw [List.length_append, List.flatMap_append]
      simpa [List.flatMap_cons] using g2
    · intro d hd
      rcases g5 with rfl | ⟨d', rfl, hd'⟩
      · exact hbn d hd
      · injection hd with hd; subst hd
        have : A2.next + 1 ≤ d' := hd'
        have := hx.next
        omega
  · have hkl : ¬ k < l.length := by simp at h; omega
    rw [unitsFrom_end hkl, List.append_nil] at hu
    subst hu
    exact v56_1111 h2 ⟨hx, hA1, ho.sl⟩
end
end Go.Proofs.R31
