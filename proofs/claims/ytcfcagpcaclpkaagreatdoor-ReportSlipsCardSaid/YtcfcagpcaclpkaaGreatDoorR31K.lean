/-
  Quoted texts and slips: what the program's functions compute is what the document's do. Conditions: the library's tables lie in memory.
-/
import Derived.Test.YtcfcagpcaclpkaaGreatDoorR31J
set_option maxRecDepth 100000
set_option linter.unusedVariables false
namespace Go.Proofs.R31
open Go Go.Ce Go.RowKit
theorem v86 {w0 : World} {fr : T CV} {s0 : List Nat} {s1 : Int} {A : AW} {Q : CV → AW → Prop} (hfr : Fr fr [(0, .s s0), (1, .i .u8 s1)])
    (h : F Tryz.prog w0 124 [CV.s s0, CV.i IntKind.u8 s1] A fun v0 A1 => ∃ x2, v0 = CV.i IntKind.i64 x2 ∧ Q (CV.i IntKind.i64 x2) A1) :
    WF Tryz.prog w0 (resOf Tryz.prog 86) (subC [] (codeOf Tryz.prog 86)) 8 fr A Q :=
  WF.of fit (stops := []) hfr (Eq.mp (by kernel_rfl) h)
theorem v124 {w0 : World} {fr : T CV} {s0 : List Nat} {s1 : Int} {A : AW} {Q : CV → AW → Prop} (hfr : Fr fr [(0, .s s0), (1, .i .u8 s1)])
    (h : ∃ v0, extA Ext.indexByte [CV.s s0, CV.i IntKind.u8 s1] = some v0 ∧ Q v0 A) :
    WF Tryz.prog w0 (resOf Tryz.prog 124) (subC [] (codeOf Tryz.prog 124)) 8 fr A Q :=
  WF.of fit (stops := []) hfr (Eq.mp (by kernel_rfl) h)
section
variable {w0 : World} {A : AW}
/-- strings.IndexByte of one byte's text. -/
theorem indexByte_run (m k : Nat) (hk : k < 256) : F Tryz.prog w0 86 [.s [m], .i .u8 (k : Int)] A (fun r A' => A' = A ∧ r = .i .i64 (if k = m then 0 else -1)) := by
  refine F.code 8 (by kernel_rfl) (v86 ⟨rfl, rfl, trivial⟩ (F.code 8 (by kernel_rfl) (v124 ⟨rfl, rfl, trivial⟩ ?_)))
  have hb : Nat.blt k 256 = true := (blt_iff _ _).2 hk
  by_cases h : k = m
  · subst h
    have h1 : firstA k [k] 0 = some 0 := by simp [firstA]
    exact ⟨.i .i64 0, by show cond (Nat.blt k 256) _ _ = _; rw [hb]; simp only [cond_true, h1]; rfl, 0, rfl, rfl, by rw [if_pos rfl]⟩
  · have h1 : firstA k [m] 0 = none := by
      have hb2 : Nat.beq m k = false := by rw [Bool.eq_false_iff]; exact fun e => h ((beqN_iff _ _).1 e).symm
      simp only [firstA, hb2, cond_false]
    exact ⟨.i .i64 (-1), by show cond (Nat.blt k 256) _ _ = _; rw [hb]; simp only [cond_true, h1]; rfl, -1, rfl, rfl, by rw [if_neg h]⟩
/-- A closed run stands in every memory. -/
theorem FD.of_closed {P : Program} {f : Nat} {fn : Func} {vs : List CV} {v : CV} {A' : AW} (hf : P.funcs[f]? = some fn) (hb : fn.body.isSome = true) (hvs : CV.bare.bareL vs = true) (hv : v.bare = true) (h : ∀ w, Below w0.heap.size w0 w → FD P w f vs ⟨0, .e⟩ v A') : FD P w0 f vs A v A :=
  FD.of_calls hf hb hv fun ρ w xs hw hx => by
    have hW : WR w (fun _ => none) ⟨0, .e⟩ w := ⟨Below.refl _ _, fun b L h => (by cases h), fun b _ => rfl, fun b ob L h => (by cases h), fun b b' ob ob' L L' h => (by cases h)⟩
    obtain ⟨_, h2⟩ := h w hw.below _ w xs hW (by rw [← concL_bare (ρ := ρ) vs hvs]; exact hx)
    exact h2.mono fun e w' ⟨z, ρ', q1, q2, _, q3⟩ => ⟨z, q1, q2.below, by rw [conc_bare v hv]; exact q3⟩
/-- The evaluator, with contracts of the kit's for some calls that change nothing. -/
def evH (P : Program) (ex : List (Nat × Ext)) (H : Nat → List CV → Option CV) (fuel : Nat) : Task → Option Res :=
  Nat.rec (motive := fun _ => Task → Option Res) (fun _ => none) (fun _ ih t => match t with
    | .call f vs A => match H f vs with
      | some v => some (.val v A)
      | none => Ce.step P ex ih (.call f vs A)
    | .code c n st => Ce.step P ex ih (.code c n st)) fuel
theorem evH_ok {P : Program} {ex : List (Nat × Ext)} (fit : Fit P ex) {H : Nat → List CV → Option CV} (hH : ∀ f vs v, H f vs = some v → ∀ A, FD P w0 f vs A v A) : ∀ fuel, CodeOK P w0 (evH P ex H fuel) ∧ LoopOK P w0 fuel (evH P ex H fuel) ∧ CallOK P w0 (evH P ex H fuel)
  | 0 => ⟨fun c n st e st' h => (by cases h), fun c n st e st' h => (by cases h), fun f vs A v A' h => (by cases h)⟩
  | k + 1 =>
    have ⟨h1, h2, h3⟩ := evH_ok fit hH k
    ⟨fun c n st e st' h => Ce.step_code fit.mixed fit.ext fit.num h3 h1 h2 c n st e st' h, fun c n st e st' h => Ce.step_loop (exts := ex) h1 h2 c n st e st' h, fun f vs A v A' h => by
      have h' : (match H f vs with | some v => some (Res.val v A) | none => Ce.step P ex (evH P ex H k) (.call f vs A)) = some (.val v A') := h
      split at h'
      · rename_i u hu
        simp only [Option.some.injEq, Res.val.injEq] at h'
        obtain ⟨rfl, rfl⟩ := h'
        exact hH f vs _ hu A
      · exact Ce.step_call h1 f vs A v A' h'⟩
/-- Is a closed call's text so? -/
def saysText (P : Program) (ex : List (Nat × Ext)) (H : Nat → List CV → Option CV) (fuel f : Nat) (vs : List CV) (l : List Nat) : Bool := match evH P ex H fuel (.call f vs ⟨0, .e⟩) with
  | some (.val (.s l') _) => leq l' l
  | _ => false
theorem leq_eq : ∀ {l m : List Nat}, leq l m = true → l = m
  | [], [], _ => rfl
  | [], _ :: _, h => by cases h
  | _ :: _, [], h => by cases h
  | a :: l, b :: m, h => by
    simp only [leq, Bool.and_eq_true, beqN_iff] at h
    rw [h.1, leq_eq h.2]
theorem saysText_ok {P : Program} {ex : List (Nat × Ext)} (fit : Fit P ex) {H : Nat → List CV → Option CV} (hH : ∀ w, Below w0.heap.size w0 w → ∀ f vs v, H f vs = some v → ∀ A, FD P w f vs A v A) {fuel f : Nat} {fn : Func} {vs : List CV} {l : List Nat} (hf : P.funcs[f]? = some fn) (hb : fn.body.isSome = true) (hvs : CV.bare.bareL vs = true) (h : saysText P ex H fuel f vs l = true) :
    F P w0 f vs A (fun r A' => A' = A ∧ r = .s l) := by
  unfold saysText at h
  split at h
  · rename_i l' A' he
    obtain rfl := leq_eq h
    exact ⟨_, _, FD.of_closed hf hb hvs rfl fun w hw ρ w' xs h1 h2 => (evH_ok fit (hH w hw) fuel).2.2 f vs _ _ _ he ρ w' xs h1 h2, rfl, rfl⟩
  · cases h
/-- math/bits.TrailingZeros64 of 16. -/
def tz16 (f : Nat) (vs : List CV) : Option CV := match vs with
  | [.i .u64 (.ofNat m)] => cond (Nat.beq f 196 && Nat.beq m 16) (some (.i .i64 4)) none
  | _ => none
theorem tz16_ok (T : Tabs w0) (f : Nat) (vs : List CV) (v : CV) (h : tz16 f vs = some v) (A : AW) : FD Tryz.prog w0 f vs A v A := by
  unfold tz16 at h
  split at h
  · rename_i m
    obtain ⟨h1, h2⟩ := cond_some h
    simp only [Bool.and_eq_true, beqN_iff] at h1
    obtain ⟨rfl, rfl⟩ := h1
    simp only [Option.some.injEq] at h2
    subst h2
    refine FD.of_calls (fn := Tryz.f196) Tryz.func196 (by kernel_rfl) rfl fun ρ w xs hw hx => ?_
    simp only [concL, conc, Option.some.injEq] at hx
    subst hx
    refine (Tryz.bits_TrailingZeros64 16 (by decide) w (fun _ => (T.on hw.below).bits)).mono ?_
    rintro e w' ⟨rfl, rfl⟩
    exact ⟨_, rfl, Below.refl _ _, rfl⟩
  · cases h
/-- strconv.FormatInt, base 16, of what is written so. -/
theorem fmt_all : ((List.range 32) ++ [127]).all (fun u => saysText Tryz.prog exts tz16 2000 87 [.i .i64 (u : Int), .i .i64 16] (hexT u)) = true := by kernel_rfl
theorem fmt_run (T : Tabs w0) (u : Nat) (hu : u < 32 ∨ u = 127) : F Tryz.prog w0 87 [.i .i64 (u : Int), .i .i64 16] A (fun r A' => A' = A ∧ r = .s (hexT u)) := by
  have h := List.all_eq_true.1 fmt_all u (by simp; omega)
  exact saysText_ok fit (fun w hw => tz16_ok (T.on hw)) (fn := Tryz.f87) Tryz.func87 (by kernel_rfl) rfl h
/-! ### Quoted texts -/
theorem hexD_lt {d : Nat} (h : d < 16) : hexD d < 256 := by unfold hexD; split <;> omega
theorem hexT_byt {u : Nat} (hu : u < 256) : Byt (hexT u) := by
  intro m hm
  have h1 : u < 16 → hexD u < 256 := hexD_lt
  have h2 : hexD (u / 16) < 256 := hexD_lt (by omega)
  have h3 : hexD (u % 16) < 256 := hexD_lt (by omega)
  unfold hexT at hm
  split at hm
  · simp only [List.mem_singleton] at hm; subst hm; exact h1 (by omega)
  · simp only [List.mem_cons, List.not_mem_nil, or_false] at hm
    rcases hm with rfl | rfl <;> assumption
theorem byt_append {l m : List Nat} (h : Byt l) (h' : Byt m) : Byt (l ++ m) := fun x hx => by
  rcases List.mem_append.1 hx with hx | hx
  · exact h x hx
  · exact h' x hx
theorem byt_lit {l : List Nat} (h : l.all (fun m => Nat.blt m 256) = true) : Byt l := fun m hm => (blt_iff _ _).1 (List.all_eq_true.1 h m hm)
/-- ████ mlex.escape, within single quotes. -/
theorem escape_run (T : Tabs w0) {b : Nat} {br : Option Nat} {l : List Nat} (h : Bld A b br l) (hA : A.Fresh) (hlen : l.length < 100000000000) (u : Nat) (hu : u < 2000000) :
    F Tryz.prog w0 54 [.p b 0, .i .i32 (u : Int), .s [39]] A (fun r A' => r = .t [] ∧ A'.Fresh ∧ ∃ br', Bld A' b br' (l ++ writtenN u) ∧ BW A b br A' br') := by
  have str : ∀ s : List Nat, Byt s → s.length ≤ 8 → writtenN u = s → F Tryz.prog w0 13 [.p b 0, .s s] A (fun v A' => ∃ x v', v = .t [.i .i64 x, v'] ∧ (CV.t [] = CV.t [] ∧ A'.Fresh ∧ ∃ br', Bld A' b br' (l ++ writtenN u) ∧ BW A b br A' br')) := by
    rintro s hs hl rfl
    refine (writeString_run h hA hs (by omega)).mono ?_
    rintro v A' ⟨⟨x, v', rfl⟩, h1, h2⟩
    exact ⟨x, v', rfl, rfl, h1, h2⟩
  have two : ∀ k : Nat, k < 256 → writtenN u = [92, k] → F Tryz.prog w0 18 [.p b 0, .i .u8 92] A (fun v A1 => ∃ v', v = v' ∧ ∃ r, r = ((k : Nat) : Int) ∧ F Tryz.prog w0 18 [.p b 0, .i .u8 r] A1 fun w A' => ∃ w', w = w' ∧ (CV.t [] = CV.t [] ∧ A'.Fresh ∧ ∃ br', Bld A' b br' (l ++ writtenN u) ∧ BW A b br A' br')) := by
    intro k hk hw
    refine (writeByte_run (m := 92) h hA (by omega) (by omega)).mono ?_
    rintro v A1 ⟨h1, br1, h2, h3⟩
    refine ⟨v, rfl, _, rfl, (writeByte_run h2 h1 hk (by simp; omega)).mono ?_⟩
    rintro w A' ⟨g1, br', g2, g3⟩
    refine ⟨w, rfl, rfl, g1, br', ?_, h3.trans g3⟩
    rw [hw]
    rw [List.append_assoc] at g2
    exact g2
  have hexa : (u < 32 ∨ u = 127) → writtenN u = [92, 117, 123] ++ hexT u ++ [125] → ∃ r, r = IntKind.i64.wrap (u : Int) ∧ F Tryz.prog w0 87 [.i .i64 r, .i .i64 16] A (fun v A1 => ∃ s, v = .s s ∧ 3 + s.length < 1099511627776 ∧ ([92, 117, 123] ++ s).length + 1 < 1099511627776 ∧
      F Tryz.prog w0 13 [.p b 0, .s ([92, 117, 123] ++ s ++ [125])] A1 fun v A' => ∃ x v', v = .t [.i .i64 x, v'] ∧ (CV.t [] = CV.t [] ∧ A'.Fresh ∧ ∃ br', Bld A' b br' (l ++ writtenN u) ∧ BW A b br A' br')) := by
    intro hc hw
    refine ⟨(u : Int), (wrap64 (by omega) (by omega)).symm, (fmt_run T u hc).mono ?_⟩
    rintro v A1 ⟨rfl, rfl⟩
    have hl := hexT_len u
    exact ⟨_, rfl, by omega, by simp; omega, str _ (byt_append (byt_append (byt_lit rfl) (hexT_byt (by omega))) (byt_lit rfl)) (by simp; omega) hw⟩
  have rune : u < 1114112 → writtenN u = encL (u : Int) → F Tryz.prog w0 88 [.p b 0, .i .i32 (u : Int)] A (fun v A' => ∃ x v', v = .t [.i .i64 x, v'] ∧ (CV.t [] = CV.t [] ∧ A'.Fresh ∧ ∃ br', Bld A' b br' (l ++ writtenN u) ∧ BW A b br A' br')) := by
    intro hc hw
    rw [hw]
    refine (writeRune_run h hA (by omega) (by omega)).mono ?_
    rintro v A' ⟨⟨x, v', rfl⟩, h1, h2⟩
    exact ⟨x, v', rfl, rfl, h1, h2⟩
  obtain ⟨z, hz⟩ : ∃ z : Int, z = (u : Int) := ⟨_, rfl⟩
  rw [← hz]
  refine F.code 63 (by kernel_rfl) (v54 ⟨rfl, rfl, rfl, trivial⟩ (vcIf.decide (fun h1 => ?_) fun h1 => vcIf.decide (fun h2 => ?_) fun h2 => vcIf.decide (fun h3 => ?_) fun h3 => vcIf.decide (fun h4 => ?_) fun h4 => vcIf.decide (fun h5 => ?_) fun h5 => ?_))
  · exact str _ (byt_lit rfl) (by simp) (by unfold writtenN; rw [if_pos (by omega)])
  · exact str _ (byt_lit rfl) (by simp) (by unfold writtenN; rw [if_neg (by omega), if_pos (by omega)])
  · exact str _ (byt_lit rfl) (by simp) (by unfold writtenN; rw [if_neg (by omega), if_neg (by omega), if_pos (by omega)])
  · refine (two 92 (by omega) (by unfold writtenN; rw [if_neg (by omega), if_neg (by omega), if_neg (by omega), if_pos (by omega)])).mono ?_
    rintro v A1 ⟨v', rfl, r, rfl, g⟩
    exact ⟨_, rfl, 92, by rw [h4]; rfl, g⟩
  · subst hz
    have hw : IntKind.u8.wrap (u : Int) = (u : Int) := by rw [wrap8m]; omega
    refine ⟨_, hw.symm, (indexByte_run 39 u (by omega)).mono ?_⟩
    rintro r A' ⟨rfl, rfl⟩
    refine ⟨_, rfl, ?_⟩
    obtain ⟨q, hq⟩ : ∃ q : Int, q = (if u = 39 then 0 else -1) := ⟨_, rfl⟩
    rw [← hq]
    refine vcIf.decide (fun h6 => ?_) fun h6 => ?_
    · have h39 : u = 39 := by
        apply Classical.byContradiction
        intro e
        rw [if_neg e] at hq
        omega
      refine (two 39 (by omega) (by unfold writtenN; rw [if_neg (by omega), if_neg (by omega), if_neg (by omega), if_neg (by omega), if_pos h39])).mono ?_
      rintro v A1 ⟨v', rfl, r, rfl, g⟩
      exact ⟨_, rfl, 39, by rw [hw, h39]; rfl, g⟩
    · have h39 : u ≠ 39 := fun e => by rw [if_pos e] at hq; omega
      obtain ⟨z, hz⟩ : ∃ z : Int, z = (u : Int) := ⟨_, rfl⟩
      rw [← hz]
      refine vcIf.decide (fun h7 => ?_) fun h7 => vcIf.decide (fun h8 => ?_) fun h8 => vcIf.decide (fun h9 => ?_) fun h9 => ?_
      · subst hz; exact hexa (by omega) (by unfold writtenN; rw [if_neg (by omega), if_neg (by omega), if_neg (by omega), if_neg (by omega), if_neg h39, if_pos (by omega)])
      · subst hz; exact hexa (by omega) (by unfold writtenN; rw [if_neg (by omega), if_neg (by omega), if_neg (by omega), if_neg (by omega), if_neg h39, if_pos (by omega)])
      · omega
      · subst hz; exact rune (by omega) (by unfold writtenN; rw [if_neg (by omega), if_neg (by omega), if_neg (by omega), if_neg (by omega), if_neg h39, if_neg (by omega), if_neg (by omega)])
  · refine vcIf.decide (fun h7 => by omega) fun h7 => vcIf.decide (fun h8 => by omega) fun h8 => vcIf.decide (fun h9 => ?_) fun h9 => ?_
    · exact str _ (byt_lit rfl) (by simp) (by unfold writtenN; rw [if_neg (by omega), if_neg (by omega), if_neg (by omega), if_neg (by omega), if_neg (by omega), if_neg (by omega), if_pos (by omega)])
    · subst hz; exact rune (by omega) (by unfold writtenN; rw [if_neg (by omega), if_neg (by omega), if_neg (by omega), if_neg (by omega), if_neg (by omega), if_neg (by omega), if_neg (by omega)])
/-- Where a text made bytes lies. -/
theorem s2b_blk {P : Program} {A A' : AW} {l : List Nat} {v : CV} {s d : TypeId} (h : s2bA P A s d (.s l) = some (v, A')) : slBlk v = some A.next ∧ A.next < A'.next := by
  unfold s2bA at h
  split at h
  · rename_i heq
    injection heq with heq
    split at h
    · obtain ⟨_, h⟩ := cond_some h
      rw [AW.new_push] at h
      simp only [Option.some.injEq, Prod.mk.injEq] at h
      obtain ⟨rfl, rfl⟩ := h
      exact ⟨rfl, Nat.lt_succ_self _⟩
    · cases h
  · rename_i heq; cases heq
  · rename_i heq; cases heq
  · cases h
theorem Bld.row_lt {A : AW} {b : Nat} {br : Option Nat} {l : List Nat} (h : Bld A b br l) (hA : A.Fresh) {d : Nat} (hd : br = some d) : d < A.next := by
  obtain ⟨⟨x, v, h1, h2, h3⟩, h4, h5⟩ := h
  subst hd
  generalize l.length = n at h3
  generalize l.map byteC = cs at h3
  cases h3 with
  | row hr hf hl hp => exact hA.lt hr
/-- ████ mlex.Quote: the document's. -/
theorem quote_run (T : Tabs w0) {s : List Nat} (hs : Byt s) (hA : A.Fresh) (hlen : s.length < 1000000000) :
    F Tryz.prog w0 15 [.s s] A (fun r A' => A' = A ∧ r = .s (quoteN s)) := by
  have hw8 : ∀ u, (writtenN u).length ≤ 8 := writtenN_len
  refine F.forget (F.code 28 (by kernel_rfl) (v15 ⟨rfl, trivial⟩ ((writeByte_run (m := 39) (Bld.new A) (hA.push _) (by omega) (by simp)).mono ?_)))
  rintro r A1 ⟨hA1, br1, hb1, hw1⟩
  obtain ⟨hx1, hr1⟩ := hw1.ext (Ext'.push _ _) (Nat.le_refl _) (fun d e => by cases e)
  obtain ⟨v, A2, g1, g2, g3, g4⟩ := s2b_ok (P := Tryz.prog) (A := A1) hs (by omega) u9 u22 u5 s5
  have hA2 := g4 hA1
  obtain ⟨k1, k2⟩ := s2b_blk g1
  have k3 : A.next + 1 ≤ A1.next := hw1.next
  refine ⟨r, rfl, v, A2, g1, fun fr0 f0 => ?_⟩
  refine W.for_ (fun m fr A' => ∃ (i : Nat) (out : List Nat) (br : Option Nat), m = s.length - i ∧ i ≤ s.length ∧ A2.next ≤ A'.next ∧ Ext' A A' ∧ A'.Fresh ∧ Bs A' v s ∧ slBlk v ≠ some A.next ∧ (∀ d, br = some d → A.next ≤ d) ∧ (∀ d, br = some d → slBlk v ≠ some d) ∧ Bld A' A.next br out ∧ out ++ (unitsFrom s i).flatMap (fun u => writtenN u.2.1) ++ [39] = quoteN s ∧ out.length ≤ 8 * i + 1 ∧
    Fr fr [(3, .p A.next 0), (4, v), (5, .i .i64 (i : Int))]) (m := s.length) ⟨0, [39], br1, rfl, by omega, Nat.le_refl _, hx1.trans g2, hA2, g3, ?_, hr1, ?_, hb1.ext hA1 g2, rfl, by simp, f0⟩ ?_
  · rw [k1]; intro e; injection e with e; omega
  · intro d hd; rw [k1]; intro e; injection e with e; have := hb1.row_lt hA1 hd; omega
  rintro m fr1 A3 ⟨i, out, br, rfl, hi, k4, hx3, hA3, hbs, hn1, hn2, hn3, hbld, ho, hol, hf⟩
  refine v15_11110100 hf ⟨_, hbs.sl.len_ok u22, vcIf.decide (fun h => ?_) (fun h fr2 h2 => ?_)⟩
  · have hil : i < s.length := by simp at h; omega
    obtain ⟨q1, q2, q3, q4⟩ := unitAt_n s hs i hil
    refine (at_run T hbs i hil hlen).mono ?_
    rintro r A' ⟨rfl, rfl⟩
    refine ⟨_, _, rfl, (escape_run T hbld hA3 (by omega) _ (by omega)).mono ?_⟩
    rintro r A4 ⟨rfl, hA4, br', hb4, hw4⟩
    have hw := hw8 (unitAt s i).1
    have w1 : IntKind.i64.wrap ((i : Int) + ((unitAt s i).2 : Int)) = ((i + (unitAt s i).2 : Nat) : Int) := by rw [wrap64 (by omega) (by omega)]; simp
    obtain ⟨hx4, hr4⟩ := hw4.ext hx3 (Nat.le_refl _) hn2
    refine ⟨rfl, _, w1.symm, fun fr3 h3 => ⟨_, by omega, i + (unitAt s i).2, _, br', rfl, q2, Nat.le_trans k4 hw4.next, hx4, hA4, ?_, hn1, hr4, ?_, hb4, ?_, ?_, h3⟩⟩
    · exact ⟨hbs.sl.keep fun d ob hd hg => hw4.get hA3 hg (fun e => hn1 (e ▸ hd)) (fun e => hn3 d e hd), hs⟩
    · intro d hd
      rcases hw4.row with e | ⟨d', e, hd'⟩
      · exact hn3 d (e ▸ hd)
      · rw [e] at hd; injection hd with hd; rw [k1]; intro e'; injection e' with e'; omega
    · rw [unitsFrom_step hs hil, List.flatMap_cons] at ho
      rw [← ho]; simp
    · simp; omega
  · have hil : ¬ i < s.length := by simp at h; omega
    rw [unitsFrom_end hil] at ho
    refine v15_11111 h2 ((writeByte_run (m := 39) hbld hA3 (by omega) (by omega)).mono ?_)
    rintro r A4 ⟨hA4, br4, hb4, hw4⟩
    obtain ⟨hx4, hr4⟩ := hw4.ext hx3 (Nat.le_refl _) hn2
    refine ⟨r, rfl, (string_run hb4 hA4 (by simp; omega)).mono ?_⟩
    rintro r A5 ⟨rfl, hA5, hw5⟩
    obtain ⟨hx5, _⟩ := hw5.ext hx4 (Nat.le_refl _) hr4
    exact ⟨_, rfl, hx5, rfl, by rw [← ho]; simp⟩
end
end Go.Proofs.R31
