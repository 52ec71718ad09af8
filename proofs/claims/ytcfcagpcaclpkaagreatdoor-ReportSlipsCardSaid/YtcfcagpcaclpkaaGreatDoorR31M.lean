/-
  ████ THE PROGRAM's Slips IS THE DOCUMENT's. Conditions: the library's tables lie in memory.
-/
import Derived.Test.YtcfcagpcaclpkaaGreatDoorR31K
set_option maxRecDepth 100000
namespace Go.Proofs.R31
open Go Go.Ce Go.RowKit
theorem a57 : aggP Tryz.prog 57 = some true := by kernel_rfl
theorem itoaN_byt {n : Int} : Byt (itoaN n) := by
  intro m hm
  unfold itoaN at hm
  obtain ⟨x, _, rfl⟩ := List.mem_map.1 hm
  exact x.toNat_lt
theorem placeText_byt (l : List Nat) (x : Int) : Byt (placeText l x) := byt_append (byt_append itoaN_byt (byt_lit rfl)) itoaN_byt
theorem writtenN_byt {u : Nat} : Byt (writtenN u) := by
  unfold writtenN
  split; exact byt_lit rfl
  split; exact byt_lit rfl
  split; exact byt_lit rfl
  split; exact byt_lit rfl
  split; exact byt_lit rfl
  split
  · rename_i h
    exact byt_append (byt_append (byt_lit rfl) (hexT_byt (by omega))) (byt_lit rfl)
  · split
    · exact byt_lit rfl
    · exact encL_byt u
theorem quoteN_byt (s : List Nat) : Byt (quoteN s) := by
  refine byt_append (byt_append (byt_lit rfl) fun m hm => ?_) (byt_lit rfl)
  obtain ⟨u, _, hu⟩ := List.mem_flatMap.1 hm
  exact writtenN_byt m hu
theorem slipSaid_byt (l : List Nat) (s : SlipT) : Byt (slipSaid l s) := by
  unfold slipSaid
  split
  · exact byt_append (byt_lit rfl) (quoteN_byt _)
  · split
    · exact byt_lit rfl
    · split
      · exact byt_lit rfl
      · exact byt_append (byt_lit rfl) itoaN_byt
section
variable {w0 : World} {A : AW}
/-- The end of a round. -/
theorem slipsEnd6 {v b8 : CV} {b : Nat} {br : Option Nat} {out : List Nat} {k n : Nat} {live : Ex → List Nat} {K : Ex → St → Prop} (hlive : live .normal = [0, 5, 8, 9, 10]) (hb : Bld A b br out) (hA : A.Fresh) (hol : out.length < 100000000) (hk : k < 100000000)
    (h : ∀ fr' A', Fr fr' [(0, v), (5, .p b 0), (8, b8), (9, .i .i64 (n : Int)), (10, .i .i64 ((k + 1 : Nat) : Int))] → A'.Fresh → (∃ br', Bld A' b br' (out ++ [10]) ∧ BW A b br A' br') → K .normal ⟨fr', A'⟩) (fr : T CV) (hf : Fr fr [(0, v), (5, .p b 0), (8, b8), (9, .i .i64 (n : Int)), (10, .i .i64 (k : Int))]) :
    W Tryz.prog w0 (subC [1, 1, 0, 1, 0, 0, 1, 1, 0, 0, 1, 1, 1] (codeOf Tryz.prog 6)) 46 (St.mk fr A) (onExit 1 (onNormal (fun st => W Tryz.prog w0 (subC [1, 1, 0, 1, 0, 0, 1, 1, 1] (codeOf Tryz.prog 6)) 46 st (leaf live K)) (leaf live K))) := by
  have w1 : IntKind.i64.wrap ((k : Int) + 1) = ((k + 1 : Nat) : Int) := by rw [wrap64 (by omega) (by omega)]; simp
  refine v6_1101001100111 hf ((writeByte_run (m := 10) hb hA (by omega) (by omega)).mono ?_)
  rintro r A1 ⟨hA1, hb1⟩
  refine ⟨r, rfl, fun fr4 h4 => ?_⟩
  exact v6_110100111 h4 ⟨_, w1.symm, fun fr5 h5 => leaf_of h5 hlive.symm fun fr' hf' => h fr' A1 hf' hA1 hb1⟩
/-- ████ report.Slips: the document's. -/
theorem slips_run (T : Tabs w0) {v u : CV} {l : List Nat} {ss : List SlipT} (hb : Bs A v l) (hs : Ss A u ss) (hA : A.Fresh) (hlen : l.length ≤ 1000) (hsl : ss.length ≤ 1000) :
    F Tryz.prog w0 6 [v, u] A (fun r A' => A' = A ∧ r = .s (slipsText l ss)) := by
  refine F.forget (F.code 46 (by kernel_rfl) (v6 ⟨rfl, rfl, trivial⟩ ⟨_, hs.sl.len_ok u23, fun fr0 f0 => ?_⟩))
  refine W.for_ (fun m fr A' => ∃ (k : Nat) (out : List Nat) (br : Option Nat), m = ss.length - k ∧ k ≤ ss.length ∧ Ext' A A' ∧ A'.Fresh ∧ Bld A' A.next br out ∧ (∀ d, br = some d → A.next ≤ d) ∧ out ++ (ss.drop k).flatMap (slipLine l) = slipsText l ss ∧ out.length ≤ 10000 * k ∧
    Fr fr [(0, v), (5, .p A.next 0), (8, u), (9, .i .i64 (ss.length : Int)), (10, .i .i64 (k : Int))]) (m := ss.length) ⟨0, [], none, rfl, by omega, Ext'.push _ _, hA.push _, Bld.new A, (fun d e => by cases e), rfl, by simp, f0⟩ ?_
  rintro m fr1 A1 ⟨k, out, br, rfl, hk, hx, hA1, hbld, hbr, ho, hol, hf⟩
  refine v6_110100 hf (vcIf.decide (fun h => ?_) (fun h fr2 h2 => ?_))
  · have hkl : k < ss.length := by omega
    have hs1 := hs.ext hA hx
    obtain ⟨b, o, e1, e2⟩ := hs1.sl.addr (P := Tryz.prog) u23 s57 hkl .i64
    have hd : ss.drop k = ss[k] :: ss.drop (k + 1) := List.drop_eq_getElem_cons hkl
    have hok := hs.ok _ (List.getElem_mem hkl)
    have c0 : ∀ j, j < 3 → cellAt A1 b (o + j) = (slipC ss[k])[j]? := fun j hj => by rw [e2 j hj, slipC_get _ _ _ hkl hj]
    rw [hd, List.flatMap_cons] at ho
    generalize ss[k] = s at *
    have hp := placeText_len hb.lt (by omega) s.2.1
    have hz := slipSaid_len hb.lt hlen hok
    -- the slip is copied
    obtain ⟨ob, hob⟩ : ∃ ob, A1.heap.get b = some ob := by
      have := c0 0 (by omega)
      unfold cellAt at this
      split at this
      · rename_i ob hob; exact ⟨ob, hob⟩
      · cases this
    have hload : loadA Tryz.prog A1 57 b o = some (.a (slipC s)) := load_struct a57 s57 hob fun j hj => by
      have := c0 j hj
      rw [cellAt_of hob] at this
      exact this
    let A2 := A1.push (AObj.mk [CV.i IntKind.i64 0, CV.i IntKind.i64 0, CV.i IntKind.i64 0] 57 0 0 false false)
    have hA2 : A2.Fresh := hA1.push _
    obtain ⟨p1, p2, p3⟩ := AW.put_get A2 A1.next (some ⟨slipC s, 57, 0, 0, false, false⟩)
    let A3 := A2.put A1.next (some ⟨slipC s, 57, 0, 0, false, false⟩)
    have hst : storeA Tryz.prog A2 57 A1.next 0 (.a (slipC s)) = some A3 := by
      have g : A2.heap.get A1.next = some ⟨[CV.i IntKind.i64 0, CV.i IntKind.i64 0, CV.i IntKind.i64 0], 57, 0, 0, false, false⟩ := push_same _ _
      simp only [storeA, g, s57]
      rfl
    have hA3 : A3.Fresh := hA2.put (Nat.lt_succ_self _) _
    have hx13 : Ext' A1 A3 := ⟨by show A1.next ≤ A2.next; exact Nat.le_succ _, fun d hd => by rw [p3 d (by omega)]; exact push_other _ _ (by omega)⟩
    have hx3 := hx.trans hx13
    have hbld3 := hbld.ext hA1 hx13
    have hlt := hbld.at hA1
    have hrow : br ≠ some A1.next := fun e => by have := hbld.row_lt hA1 e; omega
    -- what is read of the copy
    have rd : ∀ (A' : AW), A'.heap.get A1.next = some ⟨slipC s, 57, 0, 0, false, false⟩ → ∀ t, aggP Tryz.prog t = some false → loadA Tryz.prog A' t A1.next 0 = some (.i .i64 s.1) ∧ loadA Tryz.prog A' t A1.next 1 = some (.i .i64 s.2.1) ∧ loadA Tryz.prog A' t A1.next 2 = some (.i .i64 s.2.2) :=
      fun A' hg t ht => ⟨load_cell ht (by rw [cellAt_of hg]; rfl), load_cell ht (by rw [cellAt_of hg]; rfl), load_cell ht (by rw [cellAt_of hg]; rfl)⟩
    refine ⟨b, o, e1, _, hload, A3, hst, _, (rd A3 p1 3 a3).2.1, (placeText_run T (hb.ext hA hx3) hA3 (by omega) _).mono ?_⟩
    rintro r A' ⟨rfl, rfl⟩
    refine ⟨_, rfl, by omega, (writeString_run (s := placeText l s.2.1 ++ [32]) hbld3 hA3 (byt_append (placeText_byt _ _) (byt_lit rfl)) (by simp; omega)).mono ?_⟩
    rintro r A9 ⟨⟨x, y, rfl⟩, hA9, br9, hb9, hw9⟩
    obtain ⟨hx9, hr9⟩ := hw9.ext hx3 (Nat.le_refl _) hbr
    have hg9 : A9.heap.get A1.next = some ⟨slipC s, 57, 0, 0, false, false⟩ := hw9.get hA3 p1 (by omega) hrow
    obtain ⟨q1, q2, q3⟩ := rd A9 hg9 3 a3
    obtain ⟨q4, _, _⟩ := rd A9 hg9 36 a36
    have hbs9 := hb.ext hA hx9
    refine ⟨_, _, rfl, _, q4, ?_⟩
    -- the end of a round
    have fin : ∀ (said : List Nat) (A' : AW), slipSaid l s = said → (∃ br', Bld A' A.next br' (out ++ (placeText l s.2.1 ++ [32]) ++ said) ∧ BW A9 A.next br9 A' br') → A'.Fresh → ∀ fr, Fr fr [(0, v), (5, .p A.next 0), (8, u), (9, .i .i64 (ss.length : Int)), (10, .i .i64 (k : Int))] → _ := fun said A' hsaid ⟨br', g1, g2⟩ g3 =>
      slipsEnd6 (w0 := w0) (v := v) (b8 := u) (n := ss.length) (k := k) (live := fun e => match e with | Ex.normal => [0, 5, 8, 9, 10] | Ex.exit 0 => [5] | Ex.ret => [4] | _ => [])
        (K := forPost 0 (fun m fr A' => ∃ (k : Nat) (out : List Nat) (br : Option Nat), m = ss.length - k ∧ k ≤ ss.length ∧ Ext' A A' ∧ A'.Fresh ∧ Bld A' A.next br out ∧ (∀ d, br = some d → A.next ≤ d) ∧ out ++ (ss.drop k).flatMap (slipLine l) = slipsText l ss ∧ out.length ≤ 10000 * k ∧
            Fr fr [(0, v), (5, .p A.next 0), (8, u), (9, .i .i64 (ss.length : Int)), (10, .i .i64 (k : Int))]) (ss.length - k) (onNormal (fun st => W Tryz.prog w0 (subC [1, 1, 1] (codeOf Tryz.prog 6)) 46 st (endF Tryz.prog (resOf Tryz.prog 6) (fun v A' => Ext' A A' ∧ v.bare = true ∧ v = .s (slipsText l ss)))) (endF Tryz.prog (resOf Tryz.prog 6) (fun v A' => Ext' A A' ∧ v.bare = true ∧ v = .s (slipsText l ss)))))
        rfl g1 g3 (by subst hsaid; simp; omega) (by omega) fun fr' A'' h1 h2 ⟨br'', h3, h4⟩ => by
          obtain ⟨hxe, hre⟩ := g2.ext hx9 (Nat.le_refl _) hr9
          obtain ⟨hxf, hrf⟩ := h4.ext hxe (Nat.le_refl _) hre
          refine ⟨_, by omega, k + 1, _, br'', rfl, hkl, hxf, h2, h3, hrf, ?_, ?_, h1⟩
          · subst hsaid; rw [← ho]; simp [slipLine]
          · subst hsaid; simp; omega
    -- what is written
    have wr : ∀ said : List Nat, slipSaid l s = said → F Tryz.prog w0 13 [.p A.next 0, .s said] A9 (fun r A' => (∃ x y, r = .t [.i .i64 x, y]) ∧ A'.Fresh ∧ ∃ br', Bld A' A.next br' (out ++ (placeText l s.2.1 ++ [32]) ++ said) ∧ BW A9 A.next br9 A' br') := by
      rintro said rfl
      exact writeString_run hb9 hA9 (slipSaid_byt _ _) (by simp; omega)
    refine vcIf.decide (fun h5 => ?_) fun h5 => vcIf.decide (fun h6 => ?_) fun h6 => vcIf.decide (fun h7 => ?_) fun h7 => ?_
    · have hsaid : slipSaid l s = _ := if_pos h5
      refine ⟨_, q2, _, q3, (cut_run hbs9 _ _).mono ?_⟩
      rintro r A' ⟨rfl, rfl⟩
      have hcl := cutN_len l s.2.1 s.2.2
      refine ⟨_, rfl, (quote_run T (cutN_byt hb.lt _ _) hA9 (by omega)).mono ?_⟩
      rintro r A' ⟨rfl, rfl⟩
      have hql := quoteN_len (cutN_byt hb.lt s.2.1 s.2.2)
      refine ⟨_, rfl, by omega, (wr _ hsaid).mono ?_⟩
      rintro r A' ⟨⟨x, y, rfl⟩, g1, g2⟩
      exact ⟨_, _, rfl, fin _ A' hsaid g2 g1⟩
    · have hsaid : slipSaid l s = _ := (if_neg h5).trans (if_pos h6)
      refine (wr _ hsaid).mono ?_
      rintro r A' ⟨⟨x, y, rfl⟩, g1, g2⟩
      exact ⟨_, _, rfl, fin _ A' hsaid g2 g1⟩
    · have hsaid : slipSaid l s = _ := (if_neg h5).trans ((if_neg h6).trans (if_pos h7))
      refine (wr _ hsaid).mono ?_
      rintro r A' ⟨⟨x, y, rfl⟩, g1, g2⟩
      exact ⟨_, _, rfl, fin _ A' hsaid g2 g1⟩
    · have hsaid : slipSaid l s = _ := (if_neg h5).trans ((if_neg h6).trans (if_neg h7))
      refine ⟨_, q4, (errno_run T _ hok.1.1 hok.1.2).mono ?_⟩
      rintro r A' ⟨rfl, rfl⟩
      refine ⟨_, rfl, (wr _ hsaid).mono ?_⟩
      rintro r A' ⟨⟨x, y, rfl⟩, g1, g2⟩
      exact ⟨_, _, rfl, fin _ A' hsaid g2 g1⟩
  · have hkl : ¬ k < ss.length := by omega
    rw [List.drop_of_length_le (by omega)] at ho
    refine v6_111 h2 ((string_run hbld hA1 (by omega)).mono ?_)
    rintro r A5 ⟨rfl, hA5, hw5⟩
    obtain ⟨hx5, _⟩ := hw5.ext hx (Nat.le_refl _) hbr
    exact ⟨_, rfl, hx5, rfl, by rw [← ho]; simp⟩
end
end Go.Proofs.R31
