/-
  Slips as a text: what the document's function computes. Conditions: none.
-/
import Derived.Test.YtcfcagpcaclpkaaGreatDoorR31E
set_option maxRecDepth 100000
namespace Go.Proofs.R31
open Go Go.Ce
theorem u23 : Tryz.prog.underlying 23 = some (.slice 57) := by kernel_rfl
theorem s57 : sizeP Tryz.prog 57 = some 3 := by kernel_rfl
theorem a36 : aggP Tryz.prog 36 = some false := by kernel_rfl
/-- A slip: what it is, and from where to where. -/
abbrev SlipT := Int × Int × Int
def slipC (s : SlipT) : List CV := [.i .i64 s.1, .i .i64 s.2.1, .i .i64 s.2.2]
def Num64 (x : Int) : Prop := -9223372036854775808 ≤ x ∧ x ≤ 9223372036854775807
def SlipOk (s : SlipT) : Prop := Num64 s.1 ∧ Num64 s.2.1 ∧ Num64 s.2.2
def slipSaid (l : List Nat) (s : SlipT) : List Nat :=
  if s.1 = 170 then [110, 111, 32, 116, 111, 107, 101, 110, 32, 98, 101, 103, 105, 110, 115, 32, 119, 105, 116, 104, 32] ++ quoteN (cutN l s.2.1 s.2.2)
  else if s.1 = 171 then [110, 111, 32, 109, 111, 100, 101, 32, 116, 111, 32, 103, 111, 32, 98, 97, 99, 107, 32, 116, 111]
  else if s.1 = 3 then [116, 111, 111, 32, 109, 97, 110, 121, 32, 109, 111, 100, 101, 115]
  else [101, 114, 114, 111, 114, 32] ++ itoaN s.1
def slipLine (l : List Nat) (s : SlipT) : List Nat := placeText l s.2.1 ++ [32] ++ slipSaid l s ++ [10]
def slipsText (l : List Nat) (ss : List SlipT) : List Nat := ss.flatMap (slipLine l)
/-- Slips in memory. -/
structure Ss (A : AW) (v : CV) (ss : List SlipT) : Prop where
  sl : Sl A 3 v ss.length (ss.flatMap slipC)
  ok : ∀ s ∈ ss, SlipOk s
theorem slipC_get : ∀ (ss : List SlipT) (i j : Nat) (h : i < ss.length), j < 3 → (ss.flatMap slipC)[i * 3 + j]? = (slipC ss[i])[j]?
  | s :: ss, 0, j, _, hj => by
    rw [List.flatMap_cons, List.getElem?_append_left (by simp [slipC]; omega)]
    simp
  | s :: ss, i + 1, j, h, hj => by
    rw [List.flatMap_cons, List.getElem?_append_right (by simp [slipC]; omega)]
    have := slipC_get ss i j (by simpa using h) hj
    rw [List.getElem_cons_succ, ← this]
    congr 1
    simp [slipC]; omega
theorem Ss.ext {A A' : AW} {v : CV} {ss : List SlipT} (h : Ss A v ss) (hA : A.Fresh) (hx : Ext' A A') : Ss A' v ss := ⟨h.sl.ext hA hx, h.ok⟩
theorem Ss.at {A : AW} {v : CV} {ss : List SlipT} (h : Ss A v ss) {i : Nat} (hi : i < ss.length) (k : IntKind) :
    ∃ b o, indexAddrA Tryz.prog A 23 v (.i k (Int.ofNat i)) = some (.p b o) ∧ ∀ t, aggP Tryz.prog t = some false → loadA Tryz.prog A t b o = some (.i .i64 ss[i].1) ∧ loadA Tryz.prog A t b (o + 1) = some (.i .i64 ss[i].2.1) ∧ loadA Tryz.prog A t b (o + 2) = some (.i .i64 ss[i].2.2) := by
  obtain ⟨b, o, h1, h2⟩ := h.sl.addr (P := Tryz.prog) u23 s57 hi k
  refine ⟨b, o, h1, fun t ht => ⟨load_cell ht ?_, load_cell ht ?_, load_cell ht ?_⟩⟩
  · have := h2 0 (by omega); rw [slipC_get _ _ _ hi (by omega)] at this; exact this
  · have := h2 1 (by omega); rw [slipC_get _ _ _ hi (by omega)] at this; exact this
  · have := h2 2 (by omega); rw [slipC_get _ _ _ hi (by omega)] at this; exact this
theorem cutN_byt {l : List Nat} (h : Byt l) (x y : Int) : Byt (cutN l x y) := fun m hm => h m (List.mem_of_mem_drop (List.mem_of_mem_take hm))
theorem cutN_len (l : List Nat) (x y : Int) : (cutN l x y).length ≤ l.length := by unfold cutN; simp; omega
theorem placeText_len {l : List Nat} (hl : Byt l) (hlen : l.length < 1000000000) (x : Int) : (placeText l x).length ≤ 41 := by
  obtain ⟨b1, b2⟩ := placeAt_lt hl hlen x
  have l1 := itoaN_len (n := ((placeAt l x).1 : Int)) (by omega) (by omega)
  have l2 := itoaN_len (n := ((placeAt l x).2 : Int)) (by omega) (by omega)
  unfold placeText
  simp only [List.length_append, List.length_singleton]
  omega
theorem slipSaid_len {l : List Nat} (hl : Byt l) (hlen : l.length ≤ 1000) {s : SlipT} (hs : SlipOk s) : (slipSaid l s).length ≤ 9000 := by
  have h1 := quoteN_len (cutN_byt hl s.2.1 s.2.2)
  have h2 := cutN_len l s.2.1 s.2.2
  have h3 := itoaN_len hs.1.1 hs.1.2
  unfold slipSaid
  repeat' split
  all_goals simp only [List.length_append, List.length_cons, List.length_nil]
  all_goals omega
section
variable {w0 : World} {A : AW}
/-- The end of a round. -/
theorem slipsEnd {v u : CV} {out : List Nat} {k : Nat} {live : Ex → List Nat} {K : Ex → St → Prop} (hl : live .normal = [0, 1, 5, 6]) (hol : out.length < 100000000) (hk : k < 100000000)
    (h : ∀ fr', Fr fr' [(0, v), (1, u), (5, .s (out ++ [10])), (6, .i .i64 ((k + 1 : Nat) : Int))] → K .normal ⟨fr', A⟩) (fr : T CV) (hf : Fr fr [(0, v), (1, u), (5, .s out), (6, .i .i64 (k : Int))]) :
    W Tryz.prog w0 (subC [1, 1, 0, 1, 0, 0, 1, 0, 0, 1, 1] (codeOf Tryz.prog 7)) 66 (St.mk fr A) (onExit 1 (onNormal (fun st => W Tryz.prog w0 (subC [1, 1, 0, 1, 0, 0, 1, 1] (codeOf Tryz.prog 7)) 66 st (leaf live K)) (leaf live K))) := by
  have w1 : IntKind.i64.wrap ((k : Int) + 1) = ((k + 1 : Nat) : Int) := by rw [wrap64 (by omega) (by omega)]; simp
  refine v7_11010010011 hf ⟨by omega, fun fr4 h4 => ?_⟩
  exact v7_11010011 h4 ⟨_, w1.symm, fun fr5 h5 => leaf_of h5 hl.symm h⟩
/-- ████ pollardref31.Slips. -/
theorem refSlips_run {v u : CV} {l : List Nat} {ss : List SlipT} (hb : Bs A v l) (hs : Ss A u ss) (hA : A.Fresh) (hlen : l.length ≤ 1000) (hsl : ss.length ≤ 1000) :
    F Tryz.prog w0 7 [v, u] A (fun r A' => A' = A ∧ r = .s (slipsText l ss)) := by
  refine F.code 66 (by kernel_rfl) (v7 ⟨rfl, rfl, trivial⟩ fun fr0 f0 => ?_)
  refine W.for_ (fun m fr A' => ∃ (k : Nat) (out : List Nat), m = ss.length - k ∧ A' = A ∧ k ≤ ss.length ∧ out ++ (ss.drop k).flatMap (slipLine l) = slipsText l ss ∧ out.length ≤ 10000 * k ∧
    Fr fr [(0, v), (1, u), (5, .s out), (6, .i .i64 (k : Int))]) (m := ss.length) ⟨0, [], rfl, rfl, by omega, rfl, by simp, f0⟩ ?_
  rintro m fr1 A1 ⟨k, out, rfl, rfl, hk, ho, hol, hf⟩
  refine v7_110100 hf ⟨_, hs.sl.len_ok u23, vcIf.decide (fun h => ?_) (fun h fr2 h2 => ?_)⟩
  · have hkl : k < ss.length := by simp at h; omega
    obtain ⟨b, o, e1, e2⟩ := hs.at hkl .i64
    obtain ⟨e3, e4, e5⟩ := e2 3 a3
    obtain ⟨e6, _, _⟩ := e2 36 a36
    have hd : ss.drop k = ss[k] :: ss.drop (k + 1) := List.drop_eq_getElem_cons hkl
    have hok := hs.ok _ (List.getElem_mem hkl)
    rw [hd, List.flatMap_cons] at ho
    generalize ss[k] = s at *
    have hp := placeText_len hb.lt (by omega) s.2.1
    have hz := slipSaid_len hb.lt hlen hok
    have hpl : (out ++ (placeText l s.2.1 ++ [32])).length ≤ 10000 * k + 42 := by simp only [List.length_append, List.length_singleton]; omega
    refine ⟨b, o, e1, _, e4, (refPlaceText_run hb hA (by omega) _).mono ?_⟩
    rintro r A' ⟨rfl, rfl⟩
    refine ⟨_, rfl, by omega, by simp only [List.length_append, List.length_singleton]; omega, b, o, e1, _, e6, ?_⟩
    have round : ∀ said : List Nat, slipSaid l s = said → (out ++ (placeText l s.2.1 ++ [32]) ++ said ++ [10]) ++ (ss.drop (k + 1)).flatMap (slipLine l) = slipsText l ss ∧ (out ++ (placeText l s.2.1 ++ [32]) ++ said ++ [10]).length ≤ 10000 * (k + 1) ∧ (out ++ (placeText l s.2.1 ++ [32]) ++ said).length < 100000000 := by
      rintro said rfl
      refine ⟨?_, ?_, ?_⟩
      · rw [← ho]; simp [slipLine]
      · rw [List.length_append, List.length_append, List.length_singleton]; omega
      · rw [List.length_append]; omega
    refine vcIf.decide (fun h5 => ?_) fun h5 => vcIf.decide (fun h6 => ?_) fun h6 => vcIf.decide (fun h7 => ?_) fun h7 => ?_
    · obtain ⟨r1, r2, r3⟩ := round _ (if_pos h5)
      refine ⟨b, o, e1, _, e4, b, o, e1, _, e5, (refCut_run hb _ _).mono ?_⟩
      rintro r A' ⟨rfl, rfl⟩
      have hcl := cutN_len l s.2.1 s.2.2
      refine ⟨_, rfl, rfl, (refQuote_run (cutN_byt hb.lt _ _) hA (by omega)).mono ?_⟩
      rintro r A' ⟨rfl, rfl⟩
      have hql := quoteN_len (cutN_byt hb.lt s.2.1 s.2.2)
      refine ⟨_, rfl, rfl, by omega, by rw [← List.length_append]; omega, slipsEnd rfl r3 (by omega) fun fr5 h6 => ⟨_, by omega, k + 1, _, rfl, rfl, hkl, r1, r2, h6⟩⟩
    · obtain ⟨r1, r2, r3⟩ := round _ ((if_neg h5).trans (if_pos h6))
      exact ⟨by omega, slipsEnd rfl r3 (by omega) fun fr5 h6 => ⟨_, by omega, k + 1, _, rfl, rfl, hkl, r1, r2, h6⟩⟩
    · obtain ⟨r1, r2, r3⟩ := round _ ((if_neg h5).trans ((if_neg h6).trans (if_pos h7)))
      exact ⟨by omega, slipsEnd rfl r3 (by omega) fun fr5 h6 => ⟨_, by omega, k + 1, _, rfl, rfl, hkl, r1, r2, h6⟩⟩
    · obtain ⟨r1, r2, r3⟩ := round _ ((if_neg h5).trans ((if_neg h6).trans (if_neg h7)))
      refine ⟨b, o, e1, _, e6, (digits_run hA _ hok.1.1 hok.1.2).mono ?_⟩
      rintro r A' ⟨rfl, rfl⟩
      have hil := itoaN_len hok.1.1 hok.1.2
      exact ⟨_, rfl, by omega, by rw [← List.length_append]; omega, slipsEnd rfl r3 (by omega) fun fr5 h6 => ⟨_, by omega, k + 1, _, rfl, rfl, hkl, r1, r2, h6⟩⟩
  · have hkl : ¬ k < ss.length := by simp at h; omega
    rw [List.drop_of_length_le (by omega)] at ho
    refine v7_111 h2 ⟨rfl, ?_⟩
    rw [← ho]; simp
end
end Go.Proofs.R31
