/-
  What is to be shown of each stretch of the code, and that it suffices: printed by a program of this session (wip/pv), checked by the kernel. Conditions: what each hypothesis 'h' says.
-/
import Derived.Test.YtcfcagpcaclpkaaGreatDoorCfB
import Derived.Test.YtcfcagpcaclpkaaGreatDoorProg
set_option maxRecDepth 100000
set_option linter.unusedVariables false
namespace Go.Proofs.R31
open Go Go.Ce
abbrev exts : List (Nat × Ext) := [(81, .same), (161, .indexByte)]
theorem ext81 : ∃ fn, Tryz.prog.funcs[81]? = some fn ∧ (fn.name == "runtime.NumGoroutine") = false ∧ fn.body.isNone = true ∧ Extern.findNext fn = none ∧ Extern.find fn = some Ext.same.entry := ⟨Tryz.f81, Tryz.func81, by kernel_rfl, by kernel_rfl, by kernel_rfl, by kernel_rfl⟩
theorem ext161 : ∃ fn, Tryz.prog.funcs[161]? = some fn ∧ (fn.name == "runtime.NumGoroutine") = false ∧ fn.body.isNone = true ∧ Extern.findNext fn = none ∧ Extern.find fn = some Ext.indexByte.entry := ⟨Tryz.f161, Tryz.func161, by kernel_rfl, by kernel_rfl, by kernel_rfl, by kernel_rfl⟩
theorem fit : Fit Tryz.prog [(81, .same), (161, .indexByte)] := ⟨by kernel_rfl, fun f e h => by
  simp only [extOf] at h
  cases h1 : Nat.beq 81 f with
  | true =>
    rw [h1] at h
    simp only [cond_true, Option.some.injEq] at h
    subst h
    have := Nat.eq_of_beq_eq_true h1
    subst this
    exact ext81
  | false =>
    rw [h1] at h
    cases h2 : Nat.beq 161 f with
    | true =>
      rw [h2] at h
      simp only [cond_true, cond_false, Option.some.injEq] at h
      subst h
      have := Nat.eq_of_beq_eq_true h2
      subst this
      exact ext161
    | false => rw [h2] at h; simp at h, numOK_of (by kernel_rfl)⟩
theorem v14 {w0 : World} {fr : T CV} {s0 : CV} {s1 : Int} {A : AW} {Q : CV → AW → Prop} (hfr : Fr fr [(0, s0), (1, .i .i64 s1)])
    (h : F Tryz.prog w0 51 [s0, CV.i IntKind.i64 s1] A fun v0 A1 =>
      ∃ x2 x3,
        v0 = CV.t [CV.i IntKind.i64 x2, CV.i IntKind.i64 x3] ∧
          F Tryz.prog w0 52 [CV.i IntKind.i64 x2] A1 fun v4 A5 =>
            ∃ l6,
              v4 = CV.s l6 ∧
                l6.length + 1 < 1099511627776 ∧
                  F Tryz.prog w0 52 [CV.i IntKind.i64 x3] A5 fun v7 A8 => ∃ l9, v7 = CV.s l9 ∧ (l6 ++ [58]).length + l9.length < 1099511627776 ∧ Q (CV.s (l6 ++ [58] ++ l9)) A8) :
    WF Tryz.prog w0 (resOf Tryz.prog 14) (subC [] (codeOf Tryz.prog 14)) 19 fr A Q :=
  WF.of fit (stops := []) hfr (Eq.mp (by kernel_rfl) h)
theorem v16 {w0 : World} {fr : T CV} {s0 : CV} {s1 : Int} {s2 : Int} {A : AW} {Q : CV → AW → Prop} (hfr : Fr fr [(0, s0), (1, .i .i64 s1), (2, .i .i64 s2)])
    (h : ∃ m0,
      builtinV Tryz.prog Builtin.len [22] [s0] = some (CV.i IntKind.i64 (Int.ofNat m0)) ∧
        ∃ m1,
          builtinV Tryz.prog Builtin.len [22] [s0] = some (CV.i IntKind.i64 (Int.ofNat m1)) ∧
            ∃ v2,
              sliceV Tryz.prog A 22 s0 (some (CV.i IntKind.i64 (min (max s1 0) (Int.ofNat m0)))) (some (CV.i IntKind.i64 (min (max s2 (min (max s1 0) (Int.ofNat m0))) (Int.ofNat m1)))) none = some v2 ∧
                ∃ l3, convA Tryz.prog A 22 9 v2 = some (CV.s l3) ∧ Q (CV.s l3) A) :
    WF Tryz.prog w0 (resOf Tryz.prog 16) (subC [] (codeOf Tryz.prog 16)) 22 fr A Q :=
  WF.of fit (stops := []) hfr (Eq.mp (by kernel_rfl) h)
theorem v17 {w0 : World} {fr : T CV} {s0 : Int} {A : AW} {Q : CV → AW → Prop} (hfr : Fr fr [(0, .i .i64 s0)])
    (h : F Tryz.prog w0 52 [CV.i IntKind.i64 s0] A fun v0 A1 => ∃ l2, v0 = CV.s l2 ∧ 6 + l2.length < 1099511627776 ∧ Q (CV.s ([101, 114, 114, 111, 114, 32] ++ l2)) A1) :
    WF Tryz.prog w0 (resOf Tryz.prog 17) (subC [] (codeOf Tryz.prog 17)) 6 fr A Q :=
  WF.of fit (stops := []) hfr (Eq.mp (by kernel_rfl) h)
theorem v53 {w0 : World} {fr : T CV} {s0 : CV} {s1 : Int} {A : AW} {Q : CV → AW → Prop} (hfr : Fr fr [(0, s0), (1, .i .i64 s1)])
    (h : vcIf (decide (s1 < 0)) (Q (CV.t [CV.i IntKind.i32 (-1), CV.i IntKind.i64 0]) A)
      (∃ m0,
        builtinV Tryz.prog Builtin.len [22] [s0] = some (CV.i IntKind.i64 (Int.ofNat m0)) ∧
          vcIf (decide (Int.ofNat m0 ≤ s1)) (Q (CV.t [CV.i IntKind.i32 (-1), CV.i IntKind.i64 0]) A)
            (∃ v1,
              sliceV Tryz.prog A 22 s0 (some (CV.i IntKind.i64 s1)) none none = some v1 ∧
                F Tryz.prog w0 85 [v1] A fun v2 A3 =>
                  ∃ x4 x5,
                    v2 = CV.t [CV.i IntKind.i32 x4, CV.i IntKind.i64 x5] ∧
                      vcIf (decide (x4 = 65533))
                        (vcIf (decide (x5 ≤ 1))
                          (∃ b6 o7,
                            indexAddrA Tryz.prog A3 22 s0 (CV.i IntKind.i64 s1) = some (CV.p b6 o7) ∧
                              ∃ x8,
                                loadA Tryz.prog A3 5 b6 o7 = some (CV.i IntKind.u8 x8) ∧
                                  ∃ r9, r9 = IntKind.i32.wrap x8 ∧ ∃ r10, r10 = IntKind.i32.wrap (1114112 + r9) ∧ Q (CV.t [CV.i IntKind.i32 r10, CV.i IntKind.i64 1]) A3)
                          (Q (CV.t [CV.i IntKind.i32 x4, CV.i IntKind.i64 x5]) A3))
                        (Q (CV.t [CV.i IntKind.i32 x4, CV.i IntKind.i64 x5]) A3)))) :
    WF Tryz.prog w0 (resOf Tryz.prog 53) (subC [] (codeOf Tryz.prog 53)) 37 fr A Q :=
  WF.of fit (stops := []) hfr (Eq.mp (by kernel_rfl) h)
theorem v51 {w0 : World} {fr : T CV} {s0 : CV} {s1 : Int} {A : AW} {Q : CV → AW → Prop} (hfr : Fr fr [(0, s0), (1, .i .i64 s1)])
    (h : F Tryz.prog w0 82 [s0] A fun v0 A1 =>
      ∃ v2, v0 = v2 ∧ ∀ (fr3 : T CV), Fr fr3 [(0, s0), (1, CV.i IntKind.i64 s1), (6, v2)] → WF Tryz.prog w0 (resOf Tryz.prog 51) (subC [1, 1] (codeOf Tryz.prog 51)) 29 fr3 A1 Q) :
    WF Tryz.prog w0 (resOf Tryz.prog 51) (subC [] (codeOf Tryz.prog 51)) 29 fr A Q :=
  WF.of fit (stops := [(1, [0, 1, 6]), (1, [0, 1, 6])]) hfr (Eq.mp (by kernel_rfl) h)
theorem v51_111 {w0 : World} {fr : T CV} {s6 : CV} {A : AW} {Q : CV → AW → Prop} (hfr : Fr fr [(6, s6)])
    (h : vcPtr s6 fun b0 o1 =>
      ∃ x2,
        loadA Tryz.prog A 3 b0 (o1 + 3) = some (CV.i IntKind.i64 x2) ∧
          vcPtr s6 fun b3 o4 =>
            ∃ x5,
              loadA Tryz.prog A 3 b3 (o4 + 4) = some (CV.i IntKind.i64 x5) ∧
                (∃ x6, loadA Tryz.prog A 3 b3 (o4 + 4) = some (CV.i IntKind.i64 x6) ∧ CV.i IntKind.i64 x6 = CV.i IntKind.i64 x5) ∧
                  CV.p b3 (o4 + 4) = CV.p b3 (o4 + 4) ∧ (vcPtr s6 fun b7 o8 => CV.p b7 o8 = CV.p b3 o4) ∧ s6 = s6 ∧ Q (CV.t [CV.i IntKind.i64 x2, CV.i IntKind.i64 x5]) A) :
    WF Tryz.prog w0 (resOf Tryz.prog 51) (subC [1, 1, 1] (codeOf Tryz.prog 51)) 29 fr A Q :=
  WF.of fit (stops := [(1, [0, 1, 6]), (1, [0, 1, 6])]) hfr (Eq.mp (by kernel_rfl) h)
theorem v51_11000 {w0 : World} {fr : T CV} {s0 : CV} {s1 : Int} {s6 : CV} {A : AW} {K : Ex → St → Prop} (hfr : Fr fr [(0, s0), (1, .i .i64 s1), (6, s6)])
    (h : vcPtr s6 fun b0 o1 =>
      ∃ x2,
        loadA Tryz.prog A 3 b0 (o1 + 1) = some (CV.i IntKind.i64 x2) ∧
          ∃ m3,
            builtinV Tryz.prog Builtin.len [22] [s0] = some (CV.i IntKind.i64 (Int.ofNat m3)) ∧
              vcIf (decide (x2 < min (max s1 0) (Int.ofNat m3)))
                (F Tryz.prog w0 83 [s6] A fun v4 A5 =>
                  ∃ x6 x7, v4 = CV.t [CV.i IntKind.i32 x6, CV.i IntKind.i64 x7] ∧ ∀ (fr8 : T CV), Fr fr8 [(0, s0), (1, CV.i IntKind.i64 s1), (6, s6)] → K Ex.normal (St.mk fr8 A5))
                (∀ (fr10 : T CV), Fr fr10 [(6, s6)] → K (Ex.exit 0) (St.mk fr10 A))) :
    W Tryz.prog w0 (subC [1, 1, 0, 0, 0] (codeOf Tryz.prog 51)) 29 ⟨fr, A⟩ K :=
  W.of fit (stops := []) (fun e => match e with | .normal => [0, 1, 6] | .exit 0 => [6] | .ret => [4, 5] | _ => []) hfr (Eq.mp (by kernel_rfl) h)
theorem v54 {w0 : World} {fr : T CV} {s0 : CV} {s1 : Int} {s2 : List Nat} {A : AW} {Q : CV → AW → Prop} (hfr : Fr fr [(0, s0), (1, .i .i32 s1), (2, .s s2)])
    (h : vcIf (decide (s1 = 10)) (F Tryz.prog w0 13 [s0, CV.s [92, 110]] A fun v0 A1 => ∃ x2 v3, v0 = CV.t [CV.i IntKind.i64 x2, v3] ∧ Q (CV.t []) A1)
      (vcIf (decide (s1 = 13)) (F Tryz.prog w0 13 [s0, CV.s [92, 114]] A fun v4 A5 => ∃ x6 v7, v4 = CV.t [CV.i IntKind.i64 x6, v7] ∧ Q (CV.t []) A5)
        (vcIf (decide (s1 = 9)) (F Tryz.prog w0 13 [s0, CV.s [92, 116]] A fun v8 A9 => ∃ x10 v11, v8 = CV.t [CV.i IntKind.i64 x10, v11] ∧ Q (CV.t []) A9)
          (vcIf (decide (s1 = 92))
            (F Tryz.prog w0 18 [s0, CV.i IntKind.u8 92] A fun v12 A13 =>
              ∃ v14, v12 = v14 ∧ ∃ r15, r15 = IntKind.u8.wrap s1 ∧ F Tryz.prog w0 18 [s0, CV.i IntKind.u8 r15] A13 fun v16 A17 => ∃ v18, v16 = v18 ∧ Q (CV.t []) A17)
            (vcIf (decide (s1 < 128))
              (∃ r19,
                r19 = IntKind.u8.wrap s1 ∧
                  F Tryz.prog w0 86 [CV.s s2, CV.i IntKind.u8 r19] A fun v20 A21 =>
                    ∃ x22,
                      v20 = CV.i IntKind.i64 x22 ∧
                        vcIf (decide (0 ≤ x22))
                          (F Tryz.prog w0 18 [s0, CV.i IntKind.u8 92] A21 fun v23 A24 =>
                            ∃ v25, v23 = v25 ∧ ∃ r26, r26 = IntKind.u8.wrap s1 ∧ F Tryz.prog w0 18 [s0, CV.i IntKind.u8 r26] A24 fun v27 A28 => ∃ v29, v27 = v29 ∧ Q (CV.t []) A28)
                          (vcIf (decide (s1 < 32))
                            (∃ r30,
                              r30 = IntKind.i64.wrap s1 ∧
                                F Tryz.prog w0 87 [CV.i IntKind.i64 r30, CV.i IntKind.i64 16] A21 fun v31 A32 =>
                                  ∃ l33,
                                    v31 = CV.s l33 ∧
                                      3 + l33.length < 1099511627776 ∧
                                        ([92, 117, 123] ++ l33).length + 1 < 1099511627776 ∧
                                          F Tryz.prog w0 13 [s0, CV.s ([92, 117, 123] ++ l33 ++ [125])] A32 fun v34 A35 => ∃ x36 v37, v34 = CV.t [CV.i IntKind.i64 x36, v37] ∧ Q (CV.t []) A35)
                            (vcIf (decide (s1 = 127))
                              (∃ r38,
                                r38 = IntKind.i64.wrap s1 ∧
                                  F Tryz.prog w0 87 [CV.i IntKind.i64 r38, CV.i IntKind.i64 16] A21 fun v39 A40 =>
                                    ∃ l41,
                                      v39 = CV.s l41 ∧
                                        3 + l41.length < 1099511627776 ∧
                                          ([92, 117, 123] ++ l41).length + 1 < 1099511627776 ∧
                                            F Tryz.prog w0 13 [s0, CV.s ([92, 117, 123] ++ l41 ++ [125])] A40 fun v42 A43 => ∃ x44 v45, v42 = CV.t [CV.i IntKind.i64 x44, v45] ∧ Q (CV.t []) A43)
                              (vcIf (decide (1114112 ≤ s1))
                                (F Tryz.prog w0 13 [s0, CV.s [92, 117, 123, 102, 102, 102, 100, 125]] A21 fun v46 A47 => ∃ x48 v49, v46 = CV.t [CV.i IntKind.i64 x48, v49] ∧ Q (CV.t []) A47)
                                (F Tryz.prog w0 88 [s0, CV.i IntKind.i32 s1] A21 fun v50 A51 => ∃ x52 v53, v50 = CV.t [CV.i IntKind.i64 x52, v53] ∧ Q (CV.t []) A51)))))
              (vcIf (decide (s1 < 32))
                (∃ r54,
                  r54 = IntKind.i64.wrap s1 ∧
                    F Tryz.prog w0 87 [CV.i IntKind.i64 r54, CV.i IntKind.i64 16] A fun v55 A56 =>
                      ∃ l57,
                        v55 = CV.s l57 ∧
                          3 + l57.length < 1099511627776 ∧
                            ([92, 117, 123] ++ l57).length + 1 < 1099511627776 ∧
                              F Tryz.prog w0 13 [s0, CV.s ([92, 117, 123] ++ l57 ++ [125])] A56 fun v58 A59 => ∃ x60 v61, v58 = CV.t [CV.i IntKind.i64 x60, v61] ∧ Q (CV.t []) A59)
                (vcIf (decide (s1 = 127))
                  (∃ r62,
                    r62 = IntKind.i64.wrap s1 ∧
                      F Tryz.prog w0 87 [CV.i IntKind.i64 r62, CV.i IntKind.i64 16] A fun v63 A64 =>
                        ∃ l65,
                          v63 = CV.s l65 ∧
                            3 + l65.length < 1099511627776 ∧
                              ([92, 117, 123] ++ l65).length + 1 < 1099511627776 ∧
                                F Tryz.prog w0 13 [s0, CV.s ([92, 117, 123] ++ l65 ++ [125])] A64 fun v66 A67 => ∃ x68 v69, v66 = CV.t [CV.i IntKind.i64 x68, v69] ∧ Q (CV.t []) A67)
                  (vcIf (decide (1114112 ≤ s1)) (F Tryz.prog w0 13 [s0, CV.s [92, 117, 123, 102, 102, 102, 100, 125]] A fun v70 A71 => ∃ x72 v73, v70 = CV.t [CV.i IntKind.i64 x72, v73] ∧ Q (CV.t []) A71)
                    (F Tryz.prog w0 88 [s0, CV.i IntKind.i32 s1] A fun v74 A75 => ∃ x76 v77, v74 = CV.t [CV.i IntKind.i64 x76, v77] ∧ Q (CV.t []) A75))))))))) :
    WF Tryz.prog w0 (resOf Tryz.prog 54) (subC [] (codeOf Tryz.prog 54)) 63 fr A Q :=
  WF.of fit (stops := []) hfr (Eq.mp (by kernel_rfl) h)
theorem v15 {w0 : World} {fr : T CV} {s0 : List Nat} {A : AW} {Q : CV → AW → Prop} (hfr : Fr fr [(0, .s s0)])
    (h : F Tryz.prog w0 18 [CV.p A.next 0, CV.i IntKind.u8 39] (A.push (AObj.mk [CV.np, CV.ns] 60 0 0 false false)) fun v0 A1 =>
      ∃ v2,
        v0 = v2 ∧
          ∃ v3 A4,
            s2bA Tryz.prog A1 9 22 (CV.s s0) = some (v3, A4) ∧
              ∀ (fr5 : T CV),
                Fr fr5 [(3, CV.p A.next 0), (4, v3), (5, CV.i IntKind.i64 0)] →
                  W Tryz.prog w0 (subC [1, 1, 1, 1, 0, 1] (codeOf Tryz.prog 15)) 28 (St.mk fr5 A4)
                    (onNormal (fun st => W Tryz.prog w0 (subC [1, 1, 1, 1, 1] (codeOf Tryz.prog 15)) 28 st (endF Tryz.prog (resOf Tryz.prog 15) Q)) (endF Tryz.prog (resOf Tryz.prog 15) Q))) :
    WF Tryz.prog w0 (resOf Tryz.prog 15) (subC [] (codeOf Tryz.prog 15)) 28 fr A Q :=
  WF.of fit (stops := [(1, [3, 4, 5])]) hfr (Eq.mp (by kernel_rfl) h)
theorem v15_11111 {w0 : World} {fr : T CV} {s3 : CV} {A : AW} {Q : CV → AW → Prop} (hfr : Fr fr [(3, s3)])
    (h : F Tryz.prog w0 18 [s3, CV.i IntKind.u8 39] A fun v0 A1 => ∃ v2, v0 = v2 ∧ F Tryz.prog w0 19 [s3] A1 fun v3 A4 => ∃ l5, v3 = CV.s l5 ∧ Q (CV.s l5) A4) :
    WF Tryz.prog w0 (resOf Tryz.prog 15) (subC [1, 1, 1, 1, 1] (codeOf Tryz.prog 15)) 28 fr A Q :=
  WF.of fit (stops := [(1, [3, 4, 5])]) hfr (Eq.mp (by kernel_rfl) h)
theorem v15_11110100 {w0 : World} {fr : T CV} {s3 : CV} {s4 : CV} {s5 : Int} {A : AW} {K : Ex → St → Prop} (hfr : Fr fr [(3, s3), (4, s4), (5, .i .i64 s5)])
    (h : ∃ m0,
      builtinV Tryz.prog Builtin.len [22] [s4] = some (CV.i IntKind.i64 (Int.ofNat m0)) ∧
        vcIf (decide (s5 < Int.ofNat m0))
          (F Tryz.prog w0 53 [s4, CV.i IntKind.i64 s5] A fun v1 A2 =>
            ∃ x3 x4,
              v1 = CV.t [CV.i IntKind.i32 x3, CV.i IntKind.i64 x4] ∧
                F Tryz.prog w0 54 [s3, CV.i IntKind.i32 x3, CV.s [39]] A2 fun v5 A6 =>
                  v5 = CV.t [] ∧ ∃ r7, r7 = IntKind.i64.wrap (s5 + x4) ∧ ∀ (fr8 : T CV), Fr fr8 [(3, s3), (4, s4), (5, CV.i IntKind.i64 r7)] → K Ex.normal (St.mk fr8 A6))
          (∀ (fr10 : T CV), Fr fr10 [(3, s3)] → K (Ex.exit 0) (St.mk fr10 A))) :
    W Tryz.prog w0 (subC [1, 1, 1, 1, 0, 1, 0, 0] (codeOf Tryz.prog 15)) 28 ⟨fr, A⟩ K :=
  W.of fit (stops := []) (fun e => match e with | .normal => [3, 4, 5] | .exit 0 => [3] | .ret => [2] | _ => []) hfr (Eq.mp (by kernel_rfl) h)
theorem v6 {w0 : World} {fr : T CV} {s0 : CV} {s1 : CV} {A : AW} {Q : CV → AW → Prop} (hfr : Fr fr [(0, s0), (1, s1)])
    (h : ∃ m0,
      builtinV Tryz.prog Builtin.len [23] [s1] = some (CV.i IntKind.i64 (Int.ofNat m0)) ∧
        ∀ (fr1 : T CV),
          Fr fr1 [(0, s0), (5, CV.p A.next 0), (8, s1), (9, CV.i IntKind.i64 (Int.ofNat m0)), (10, CV.i IntKind.i64 0)] →
            W Tryz.prog w0 (subC [1, 1, 0, 1] (codeOf Tryz.prog 6)) 46 (St.mk fr1 (A.push (AObj.mk [CV.np, CV.ns] 60 0 0 false false)))
              (onNormal (fun st => W Tryz.prog w0 (subC [1, 1, 1] (codeOf Tryz.prog 6)) 46 st (endF Tryz.prog (resOf Tryz.prog 6) Q)) (endF Tryz.prog (resOf Tryz.prog 6) Q))) :
    WF Tryz.prog w0 (resOf Tryz.prog 6) (subC [] (codeOf Tryz.prog 6)) 46 fr A Q :=
  WF.of fit (stops := [(1, [0, 5, 8, 9, 10])]) hfr (Eq.mp (by kernel_rfl) h)
theorem v6_111 {w0 : World} {fr : T CV} {s5 : CV} {A : AW} {Q : CV → AW → Prop} (hfr : Fr fr [(5, s5)])
    (h : F Tryz.prog w0 19 [s5] A fun v0 A1 => ∃ l2, v0 = CV.s l2 ∧ Q (CV.s l2) A1) :
    WF Tryz.prog w0 (resOf Tryz.prog 6) (subC [1, 1, 1] (codeOf Tryz.prog 6)) 46 fr A Q :=
  WF.of fit (stops := [(1, [0, 5, 8, 9, 10])]) hfr (Eq.mp (by kernel_rfl) h)
theorem v6_110100 {w0 : World} {fr : T CV} {s0 : CV} {s5 : CV} {s8 : CV} {s9 : Int} {s10 : Int} {A : AW} {K : Ex → St → Prop} (hfr : Fr fr [(0, s0), (5, s5), (8, s8), (9, .i .i64 s9), (10, .i .i64 s10)])
    (h : vcIf (decide (s10 < s9))
      (∃ b0 o1,
        indexAddrA Tryz.prog A 23 s8 (CV.i IntKind.i64 s10) = some (CV.p b0 o1) ∧
          ∃ v2,
            loadA Tryz.prog A 57 b0 o1 = some v2 ∧
              ∃ A3,
                storeA Tryz.prog (A.push (AObj.mk [CV.i IntKind.i64 0, CV.i IntKind.i64 0, CV.i IntKind.i64 0] 57 0 0 false false)) 57 A.next 0 v2 = some A3 ∧
                  ∃ x4,
                    loadA Tryz.prog A3 3 A.next 1 = some (CV.i IntKind.i64 x4) ∧
                      F Tryz.prog w0 14 [s0, CV.i IntKind.i64 x4] A3 fun v5 A6 =>
                        ∃ l7,
                          v5 = CV.s l7 ∧
                            l7.length + 1 < 1099511627776 ∧
                              F Tryz.prog w0 13 [s5, CV.s (l7 ++ [32])] A6 fun v8 A9 =>
                                ∃ x10 v11,
                                  v8 = CV.t [CV.i IntKind.i64 x10, v11] ∧
                                    ∃ x12,
                                      loadA Tryz.prog A9 36 A.next 0 = some (CV.i IntKind.i64 x12) ∧
                                        vcIf (decide (x12 = 170))
                                          (∃ x13,
                                            loadA Tryz.prog A9 3 A.next 1 = some (CV.i IntKind.i64 x13) ∧
                                              ∃ x14,
                                                loadA Tryz.prog A9 3 A.next 2 = some (CV.i IntKind.i64 x14) ∧
                                                  F Tryz.prog w0 16 [s0, CV.i IntKind.i64 x13, CV.i IntKind.i64 x14] A9 fun v15 A16 =>
                                                    ∃ l17,
                                                      v15 = CV.s l17 ∧
                                                        F Tryz.prog w0 15 [CV.s l17] A16 fun v18 A19 =>
                                                          ∃ l20,
                                                            v18 = CV.s l20 ∧
                                                              21 + l20.length < 1099511627776 ∧
                                                                F Tryz.prog w0 13 [s5, CV.s ([110, 111, 32, 116, 111, 107, 101, 110, 32, 98, 101, 103, 105, 110, 115, 32, 119, 105, 116, 104, 32] ++ l20)]
                                                                  A19 fun v21 A22 =>
                                                                  ∃ x23 v24,
                                                                    v21 = CV.t [CV.i IntKind.i64 x23, v24] ∧
                                                                      ∀ (fr25 : T CV),
                                                                        Fr fr25 [(0, s0), (5, s5), (8, s8), (9, CV.i IntKind.i64 s9), (10, CV.i IntKind.i64 s10)] →
                                                                          W Tryz.prog w0 (subC [1, 1, 0, 1, 0, 0, 1, 1, 0, 0, 1, 1, 1] (codeOf Tryz.prog 6)) 46 (St.mk fr25 A22)
                                                                            (onExit 1
                                                                              (onNormal
                                                                                (fun st =>
                                                                                  W Tryz.prog w0 (subC [1, 1, 0, 1, 0, 0, 1, 1, 1] (codeOf Tryz.prog 6)) 46 st
                                                                                    (leaf
                                                                                      (fun e =>
                                                                                        match e with
                                                                                        | Ex.normal => [0, 5, 8, 9, 10]
                                                                                        | Ex.exit 0 => [5]
                                                                                        | Ex.ret => [4]
                                                                                        | x => [])
                                                                                      K))
                                                                                (leaf
                                                                                  (fun e =>
                                                                                    match e with
                                                                                    | Ex.normal => [0, 5, 8, 9, 10]
                                                                                    | Ex.exit 0 => [5]
                                                                                    | Ex.ret => [4]
                                                                                    | x => [])
                                                                                  K))))
                                          (vcIf (decide (x12 = 171))
                                            (F Tryz.prog w0 13 [s5, CV.s [110, 111, 32, 109, 111, 100, 101, 32, 116, 111, 32, 103, 111, 32, 98, 97, 99, 107, 32, 116, 111]] A9 fun v27 A28 =>
                                              ∃ x29 v30,
                                                v27 = CV.t [CV.i IntKind.i64 x29, v30] ∧
                                                  ∀ (fr31 : T CV),
                                                    Fr fr31 [(0, s0), (5, s5), (8, s8), (9, CV.i IntKind.i64 s9), (10, CV.i IntKind.i64 s10)] →
                                                      W Tryz.prog w0 (subC [1, 1, 0, 1, 0, 0, 1, 1, 0, 0, 1, 1, 1] (codeOf Tryz.prog 6)) 46 (St.mk fr31 A28)
                                                        (onExit 1
                                                          (onNormal
                                                            (fun st =>
                                                              W Tryz.prog w0 (subC [1, 1, 0, 1, 0, 0, 1, 1, 1] (codeOf Tryz.prog 6)) 46 st
                                                                (leaf
                                                                  (fun e =>
                                                                    match e with
                                                                    | Ex.normal => [0, 5, 8, 9, 10]
                                                                    | Ex.exit 0 => [5]
                                                                    | Ex.ret => [4]
                                                                    | x => [])
                                                                  K))
                                                            (leaf
                                                              (fun e =>
                                                                match e with
                                                                | Ex.normal => [0, 5, 8, 9, 10]
                                                                | Ex.exit 0 => [5]
                                                                | Ex.ret => [4]
                                                                | x => [])
                                                              K))))
                                            (vcIf (decide (x12 = 3))
                                              (F Tryz.prog w0 13 [s5, CV.s [116, 111, 111, 32, 109, 97, 110, 121, 32, 109, 111, 100, 101, 115]] A9 fun v33 A34 =>
                                                ∃ x35 v36,
                                                  v33 = CV.t [CV.i IntKind.i64 x35, v36] ∧
                                                    ∀ (fr37 : T CV),
                                                      Fr fr37 [(0, s0), (5, s5), (8, s8), (9, CV.i IntKind.i64 s9), (10, CV.i IntKind.i64 s10)] →
                                                        W Tryz.prog w0 (subC [1, 1, 0, 1, 0, 0, 1, 1, 0, 0, 1, 1, 1] (codeOf Tryz.prog 6)) 46 (St.mk fr37 A34)
                                                          (onExit 1
                                                            (onNormal
                                                              (fun st =>
                                                                W Tryz.prog w0 (subC [1, 1, 0, 1, 0, 0, 1, 1, 1] (codeOf Tryz.prog 6)) 46 st
                                                                  (leaf
                                                                    (fun e =>
                                                                      match e with
                                                                      | Ex.normal => [0, 5, 8, 9, 10]
                                                                      | Ex.exit 0 => [5]
                                                                      | Ex.ret => [4]
                                                                      | x => [])
                                                                    K))
                                                              (leaf
                                                                (fun e =>
                                                                  match e with
                                                                  | Ex.normal => [0, 5, 8, 9, 10]
                                                                  | Ex.exit 0 => [5]
                                                                  | Ex.ret => [4]
                                                                  | x => [])
                                                                K))))
                                              (∃ x39,
                                                loadA Tryz.prog A9 36 A.next 0 = some (CV.i IntKind.i64 x39) ∧
                                                  F Tryz.prog w0 17 [CV.i IntKind.i64 x39] A9 fun v40 A41 =>
                                                    ∃ l42,
                                                      v40 = CV.s l42 ∧
                                                        F Tryz.prog w0 13 [s5, CV.s l42] A41 fun v43 A44 =>
                                                          ∃ x45 v46,
                                                            v43 = CV.t [CV.i IntKind.i64 x45, v46] ∧
                                                              ∀ (fr47 : T CV),
                                                                Fr fr47 [(0, s0), (5, s5), (8, s8), (9, CV.i IntKind.i64 s9), (10, CV.i IntKind.i64 s10)] →
                                                                  W Tryz.prog w0 (subC [1, 1, 0, 1, 0, 0, 1, 1, 0, 0, 1, 1, 1] (codeOf Tryz.prog 6)) 46 (St.mk fr47 A44)
                                                                    (onExit 1
                                                                      (onNormal
                                                                        (fun st =>
                                                                          W Tryz.prog w0 (subC [1, 1, 0, 1, 0, 0, 1, 1, 1] (codeOf Tryz.prog 6)) 46 st
                                                                            (leaf
                                                                              (fun e =>
                                                                                match e with
                                                                                | Ex.normal => [0, 5, 8, 9, 10]
                                                                                | Ex.exit 0 => [5]
                                                                                | Ex.ret => [4]
                                                                                | x => [])
                                                                              K))
                                                                        (leaf
                                                                          (fun e =>
                                                                            match e with
                                                                            | Ex.normal => [0, 5, 8, 9, 10]
                                                                            | Ex.exit 0 => [5]
                                                                            | Ex.ret => [4]
                                                                            | x => [])
                                                                          K)))))))
      (∀ (fr49 : T CV), Fr fr49 [(5, s5)] → K (Ex.exit 0) (St.mk fr49 A))) :
    W Tryz.prog w0 (subC [1, 1, 0, 1, 0, 0] (codeOf Tryz.prog 6)) 46 ⟨fr, A⟩ K :=
  W.of fit (stops := [(28, [0, 5, 8, 9, 10]), (30, [0, 5, 8, 9, 10])]) (fun e => match e with | .normal => [0, 5, 8, 9, 10] | .exit 0 => [5] | .ret => [4] | _ => []) hfr (Eq.mp (by kernel_rfl) h)
theorem v6_1101001100111 {w0 : World} {fr : T CV} {s0 : CV} {s5 : CV} {s8 : CV} {s9 : Int} {s10 : Int} {A : AW} {K : Ex → St → Prop} (hfr : Fr fr [(0, s0), (5, s5), (8, s8), (9, .i .i64 s9), (10, .i .i64 s10)])
    (h : F Tryz.prog w0 18 [s5, CV.i IntKind.u8 10] A fun v0 A1 =>
      ∃ v2, v0 = v2 ∧ ∀ (fr3 : T CV), Fr fr3 [(0, s0), (5, s5), (8, s8), (9, CV.i IntKind.i64 s9), (10, CV.i IntKind.i64 s10)] → K Ex.normal (St.mk fr3 A1)) :
    W Tryz.prog w0 (subC [1, 1, 0, 1, 0, 0, 1, 1, 0, 0, 1, 1, 1] (codeOf Tryz.prog 6)) 46 ⟨fr, A⟩ K :=
  W.of fit (stops := [(30, [0, 5, 8, 9, 10])]) (fun e => match e with | .normal => [0, 5, 8, 9, 10] | .exit 1 => [0, 5, 8, 9, 10] | .exit 0 => [5] | .ret => [4] | _ => []) hfr (Eq.mp (by kernel_rfl) h)
theorem v6_110100111 {w0 : World} {fr : T CV} {s0 : CV} {s5 : CV} {s8 : CV} {s9 : Int} {s10 : Int} {A : AW} {K : Ex → St → Prop} (hfr : Fr fr [(0, s0), (5, s5), (8, s8), (9, .i .i64 s9), (10, .i .i64 s10)])
    (h : ∃ r0, r0 = IntKind.i64.wrap (s10 + 1) ∧ ∀ (fr1 : T CV), Fr fr1 [(0, s0), (5, s5), (8, s8), (9, CV.i IntKind.i64 s9), (10, CV.i IntKind.i64 r0)] → K Ex.normal (St.mk fr1 A)) :
    W Tryz.prog w0 (subC [1, 1, 0, 1, 0, 0, 1, 1, 1] (codeOf Tryz.prog 6)) 46 ⟨fr, A⟩ K :=
  W.of fit (stops := [(28, [0, 5, 8, 9, 10])]) (fun e => match e with | .normal => [0, 5, 8, 9, 10] | .exit 0 => [5] | .ret => [4] | _ => []) hfr (Eq.mp (by kernel_rfl) h)
theorem v13 {w0 : World} {fr : T CV} {s0 : CV} {s1 : List Nat} {A : AW} {Q : CV → AW → Prop} (hfr : Fr fr [(0, s0), (1, .s s1)])
    (h : F Tryz.prog w0 50 [s0] A fun v0 A1 =>
      v0 = CV.t [] ∧
        vcPtr s0 fun b2 o3 =>
          ∃ v4,
            loadA Tryz.prog A1 22 b2 (o3 + 1) = some v4 ∧
              ∃ v5 A6,
                appendA Tryz.prog A1 22 9 v4 (CV.s s1) = some (v5, A6) ∧
                  vcPtr s0 fun b7 o8 =>
                    ∃ A9,
                      storeA Tryz.prog A6 22 b7 (o8 + 1) v5 = some A9 ∧
                        ∃ m10, builtinV Tryz.prog Builtin.len [9] [CV.s s1] = some (CV.i IntKind.i64 (Int.ofNat m10)) ∧ Q (CV.t [CV.i IntKind.i64 (Int.ofNat m10), CV.ni]) A9) :
    WF Tryz.prog w0 (resOf Tryz.prog 13) (subC [] (codeOf Tryz.prog 13)) 19 fr A Q :=
  WF.of fit (stops := []) hfr (Eq.mp (by kernel_rfl) h)
theorem v18 {w0 : World} {fr : T CV} {s0 : CV} {s1 : Int} {A : AW} {Q : CV → AW → Prop} (hfr : Fr fr [(0, s0), (1, .i .u8 s1)])
    (h : F Tryz.prog w0 50 [s0] A fun v0 A1 =>
      v0 = CV.t [] ∧
        vcPtr s0 fun b2 o3 =>
          ∃ v4,
            loadA Tryz.prog A1 22 b2 (o3 + 1) = some v4 ∧
              ∃ cs5,
                fillV (fun i => some (i * 1, 1)) [CV.i IntKind.u8 0] [(0, CV.i IntKind.u8 s1)] = some cs5 ∧
                  ∃ v6 A7,
                    appendA Tryz.prog (A1.push (AObj.mk cs5 5 0 0 false false)) 22 22 v4 (CV.se A1.next 0 1 1) = some (v6, A7) ∧
                      vcPtr s0 fun b8 o9 => ∃ A10, storeA Tryz.prog A7 22 b8 (o9 + 1) v6 = some A10 ∧ Q CV.ni A10) :
    WF Tryz.prog w0 (resOf Tryz.prog 18) (subC [] (codeOf Tryz.prog 18)) 17 fr A Q :=
  WF.of fit (stops := []) hfr (Eq.mp (by kernel_rfl) h)
theorem v19 {w0 : World} {fr : T CV} {s0 : CV} {A : AW} {Q : CV → AW → Prop} (hfr : Fr fr [(0, s0)])
    (h : vcPtr s0 fun b0 o1 =>
      ∃ v2,
        loadA Tryz.prog A 22 b0 (o1 + 1) = some v2 ∧
          ∃ v3,
            builtinV Tryz.prog Builtin.unsafeSliceData [22] [v2] = some v3 ∧
              vcPtr s0 fun b4 o5 =>
                ∃ v6,
                  loadA Tryz.prog A 22 b4 (o5 + 1) = some v6 ∧
                    ∃ m7,
                      builtinV Tryz.prog Builtin.len [22] [v6] = some (CV.i IntKind.i64 (Int.ofNat m7)) ∧
                        ∃ l8 A9, usA Tryz.prog A [115, 3] v3 (CV.i IntKind.i64 (Int.ofNat m7)) = some (CV.s l8, A9) ∧ Q (CV.s l8) A9) :
    WF Tryz.prog w0 (resOf Tryz.prog 19) (subC [] (codeOf Tryz.prog 19)) 14 fr A Q :=
  WF.of fit (stops := []) hfr (Eq.mp (by kernel_rfl) h)
theorem v50 {w0 : World} {fr : T CV} {s0 : CV} {A : AW} {Q : CV → AW → Prop} (hfr : Fr fr [(0, s0)])
    (h : vcPtr s0 fun b0 o1 =>
      ∃ v2,
        loadA Tryz.prog A 58 b0 (o1 + 0) = some v2 ∧
          ∃ r3,
            binA Tryz.prog BinOp.eql 58 v2 CV.np = some (CV.b r3) ∧
              vcIf r3
                (∃ v4,
                  convA Tryz.prog A 58 168 s0 = some v4 ∧
                    ∃ v5, extA Ext.same [v4] = some v5 ∧ ∃ v6, convA Tryz.prog A 168 58 v5 = some v6 ∧ vcPtr s0 fun b7 o8 => ∃ A9, storeA Tryz.prog A 58 b7 (o8 + 0) v6 = some A9 ∧ Q (CV.t []) A9)
                (vcPtr s0 fun b10 o11 => ∃ v12, loadA Tryz.prog A 58 b10 (o11 + 0) = some v12 ∧ ∃ r13, binA Tryz.prog BinOp.neq 58 v12 s0 = some (CV.b r13) ∧ vcIf r13 False (Q (CV.t []) A))) :
    WF Tryz.prog w0 (resOf Tryz.prog 50) (subC [] (codeOf Tryz.prog 50)) 20 fr A Q :=
  WF.of fit (stops := []) hfr (Eq.mp (by kernel_rfl) h)
theorem v82 {w0 : World} {fr : T CV} {s0 : CV} {A : AW} {Q : CV → AW → Prop} (hfr : Fr fr [(0, s0)])
    (h : ∃ cs0,
      fillV (fun i => some (i * 1, 1)) [] [] = some cs0 ∧
        ∃ v1 A2,
          appendA Tryz.prog (A.push (AObj.mk cs0 5 0 0 false false)) 22 22 (CV.se A.next 0 0 0) s0 = some (v1, A2) ∧
            ∃ cs3, buildV Tryz.prog 173 [(0, v1), (3, CV.i IntKind.i64 1)] = some (CV.a cs3) ∧ Q (CV.p A2.next 0) (A2.push (AObj.mk cs3 173 0 0 false false))) :
    WF Tryz.prog w0 (resOf Tryz.prog 82) (subC [] (codeOf Tryz.prog 82)) 8 fr A Q :=
  WF.of fit (stops := []) hfr (Eq.mp (by kernel_rfl) h)
theorem v83 {w0 : World} {fr : T CV} {s0 : CV} {A : AW} {Q : CV → AW → Prop} (hfr : Fr fr [(0, s0)])
    (h : ∃ r0,
      binA Tryz.prog BinOp.eql 170 s0 CV.np = some (CV.b r0) ∧
        vcIf r0 (Q (CV.t [CV.i IntKind.i32 (-1), CV.i IntKind.i64 1]) A)
          (vcPtr s0 fun b1 o2 =>
            ∃ v3,
              loadA Tryz.prog A 22 b1 (o2 + 0) = some v3 ∧
                vcPtr s0 fun b4 o5 =>
                  ∃ x6,
                    loadA Tryz.prog A 3 b4 (o5 + 1) = some (CV.i IntKind.i64 x6) ∧
                      F Tryz.prog w0 53 [v3, CV.i IntKind.i64 x6] A fun v7 A8 =>
                        ∃ x9 x10,
                          v7 = CV.t [CV.i IntKind.i32 x9, CV.i IntKind.i64 x10] ∧
                            CV.i IntKind.i64 x10 = CV.i IntKind.i64 x10 ∧
                              vcIf (decide (x10 = 0)) (Q (CV.t [CV.i IntKind.i32 (-1), CV.i IntKind.i64 4]) A8)
                                (vcPtr s0 fun b11 o12 =>
                                  ∃ x13,
                                    loadA Tryz.prog A8 3 b11 (o12 + 1) = some (CV.i IntKind.i64 x13) ∧
                                      ∃ r14,
                                        r14 = IntKind.i64.wrap (x13 + x10) ∧
                                          vcPtr s0 fun b15 o16 =>
                                            ∃ A17,
                                              storeA Tryz.prog A8 3 b15 (o16 + 1) (CV.i IntKind.i64 r14) = some A17 ∧
                                                vcPtr s0 fun b18 o19 =>
                                                  ∃ x20,
                                                    loadA Tryz.prog A17 3 b18 (o19 + 2) = some (CV.i IntKind.i64 x20) ∧
                                                      ∃ r21,
                                                        r21 = IntKind.i64.wrap (x20 + 1) ∧
                                                          vcPtr s0 fun b22 o23 =>
                                                            ∃ A24,
                                                              storeA Tryz.prog A17 3 b22 (o23 + 2) (CV.i IntKind.i64 r21) = some A24 ∧
                                                                vcPtr s0 fun b25 o26 =>
                                                                  ∃ x27,
                                                                    loadA Tryz.prog A24 3 b25 (o26 + 4) = some (CV.i IntKind.i64 x27) ∧
                                                                      ∃ r28,
                                                                        r28 = IntKind.i64.wrap (x27 + 1) ∧
                                                                          vcPtr s0 fun b29 o30 =>
                                                                            ∃ A31,
                                                                              storeA Tryz.prog A24 3 b29 (o30 + 4) (CV.i IntKind.i64 r28) = some A31 ∧
                                                                                vcIf (decide (x9 = 10))
                                                                                  (vcPtr s0 fun b32 o33 =>
                                                                                    ∃ x34,
                                                                                      loadA Tryz.prog A31 3 b32 (o33 + 3) = some (CV.i IntKind.i64 x34) ∧
                                                                                        ∃ r35,
                                                                                          r35 = IntKind.i64.wrap (x34 + 1) ∧
                                                                                            vcPtr s0 fun b36 o37 =>
                                                                                              ∃ A38,
                                                                                                storeA Tryz.prog A31 3 b36 (o37 + 3) (CV.i IntKind.i64 r35) = some A38 ∧
                                                                                                  vcPtr s0 fun b39 o40 =>
                                                                                                    ∃ A41,
                                                                                                      storeA Tryz.prog A38 3 b39 (o40 + 4) (CV.i IntKind.i64 0) = some A41 ∧
                                                                                                        Q (CV.t [CV.i IntKind.i32 x9, CV.i IntKind.i64 0]) A41)
                                                                                  (Q (CV.t [CV.i IntKind.i32 x9, CV.i IntKind.i64 0]) A31)))) :
    WF Tryz.prog w0 (resOf Tryz.prog 83) (subC [] (codeOf Tryz.prog 83)) 57 fr A Q :=
  WF.of fit (stops := []) hfr (Eq.mp (by kernel_rfl) h)
theorem v88 {w0 : World} {fr : T CV} {s0 : CV} {s1 : Int} {A : AW} {Q : CV → AW → Prop} (hfr : Fr fr [(0, s0), (1, .i .i32 s1)])
    (h : F Tryz.prog w0 50 [s0] A fun v0 A1 =>
      v0 = CV.t [] ∧
        vcPtr s0 fun b2 o3 =>
          ∃ v4,
            loadA Tryz.prog A1 22 b2 (o3 + 1) = some v4 ∧
              ∃ m5,
                builtinV Tryz.prog Builtin.len [22] [v4] = some (CV.i IntKind.i64 (Int.ofNat m5)) ∧
                  vcPtr s0 fun b6 o7 =>
                    ∃ v8,
                      loadA Tryz.prog A1 22 b6 (o7 + 1) = some v8 ∧
                        F Tryz.prog w0 125 [v8, CV.i IntKind.i32 s1] A1 fun v9 A10 =>
                          ∃ v11,
                            v9 = v11 ∧
                              vcPtr s0 fun b12 o13 =>
                                ∃ A14,
                                  storeA Tryz.prog A10 22 b12 (o13 + 1) v11 = some A14 ∧
                                    vcPtr s0 fun b15 o16 =>
                                      ∃ v17,
                                        loadA Tryz.prog A14 22 b15 (o16 + 1) = some v17 ∧
                                          ∃ m18,
                                            builtinV Tryz.prog Builtin.len [22] [v17] = some (CV.i IntKind.i64 (Int.ofNat m18)) ∧
                                              ∃ r19, r19 = IntKind.i64.wrap (Int.ofNat m18 - Int.ofNat m5) ∧ Q (CV.t [CV.i IntKind.i64 r19, CV.ni]) A14) :
    WF Tryz.prog w0 (resOf Tryz.prog 88) (subC [] (codeOf Tryz.prog 88)) 30 fr A Q :=
  WF.of fit (stops := []) hfr (Eq.mp (by kernel_rfl) h)
theorem v125 {w0 : World} {fr : T CV} {s0 : CV} {s1 : Int} {A : AW} {Q : CV → AW → Prop} (hfr : Fr fr [(0, s0), (1, .i .i32 s1)])
    (h : ∃ r0,
      r0 = IntKind.u32.wrap s1 ∧
        vcIf (decide (r0 ≤ 127))
          (∃ r1,
            r1 = IntKind.u8.wrap s1 ∧
              ∃ cs2,
                fillV (fun i => some (i * 1, 1)) [CV.i IntKind.u8 0] [(0, CV.i IntKind.u8 r1)] = some cs2 ∧
                  ∃ v3 A4, appendA Tryz.prog (A.push (AObj.mk cs2 5 0 0 false false)) 22 22 s0 (CV.se A.next 0 1 1) = some (v3, A4) ∧ Q v3 A4)
          (F Tryz.prog w0 162 [s0, CV.i IntKind.i32 s1] A fun v5 A6 => ∃ v7, v5 = v7 ∧ Q v7 A6)) :
    WF Tryz.prog w0 (resOf Tryz.prog 125) (subC [] (codeOf Tryz.prog 125)) 16 fr A Q :=
  WF.of fit (stops := []) hfr (Eq.mp (by kernel_rfl) h)
theorem v162 {w0 : World} {fr : T CV} {s0 : CV} {s1 : Int} {A : AW} {Q : CV → AW → Prop} (hfr : Fr fr [(0, s0), (1, .i .i32 s1)])
    (h : ∃ r0,
      r0 = IntKind.u32.wrap s1 ∧
        vcIf (decide (r0 ≤ 2047))
          (∃ r1,
            shiftA BinOp.shr IntKind.i32 s1 6 = some (CV.i IntKind.i32 r1) ∧
              ∃ r2,
                r2 = IntKind.u8.wrap r1 ∧
                  ∃ r3,
                    intBin BinOp.or IntKind.u8 192 r2 = some (CV.i IntKind.u8 r3) ∧
                      ∃ r4,
                        r4 = IntKind.u8.wrap s1 ∧
                          ∃ r5,
                            intBin BinOp.and IntKind.u8 r4 63 = some (CV.i IntKind.u8 r5) ∧
                              ∃ r6,
                                intBin BinOp.or IntKind.u8 128 r5 = some (CV.i IntKind.u8 r6) ∧
                                  ∃ cs7,
                                    fillV (fun i => some (i * 1, 1)) [CV.i IntKind.u8 0, CV.i IntKind.u8 0] [(0, CV.i IntKind.u8 r3), (1, CV.i IntKind.u8 r6)] = some cs7 ∧
                                      ∃ v8 A9, appendA Tryz.prog (A.push (AObj.mk cs7 5 0 0 false false)) 22 22 s0 (CV.se A.next 0 2 2) = some (v8, A9) ∧ Q v8 A9)
          (vcIf (decide (r0 < 55296))
            (vcIf (decide (r0 < 55296))
              (∃ r10,
                shiftA BinOp.shr IntKind.i32 s1 12 = some (CV.i IntKind.i32 r10) ∧
                  ∃ r11,
                    r11 = IntKind.u8.wrap r10 ∧
                      ∃ r12,
                        intBin BinOp.or IntKind.u8 224 r11 = some (CV.i IntKind.u8 r12) ∧
                          ∃ r13,
                            shiftA BinOp.shr IntKind.i32 s1 6 = some (CV.i IntKind.i32 r13) ∧
                              ∃ r14,
                                r14 = IntKind.u8.wrap r13 ∧
                                  ∃ r15,
                                    intBin BinOp.and IntKind.u8 r14 63 = some (CV.i IntKind.u8 r15) ∧
                                      ∃ r16,
                                        intBin BinOp.or IntKind.u8 128 r15 = some (CV.i IntKind.u8 r16) ∧
                                          ∃ r17,
                                            r17 = IntKind.u8.wrap s1 ∧
                                              ∃ r18,
                                                intBin BinOp.and IntKind.u8 r17 63 = some (CV.i IntKind.u8 r18) ∧
                                                  ∃ r19,
                                                    intBin BinOp.or IntKind.u8 128 r18 = some (CV.i IntKind.u8 r19) ∧
                                                      ∃ cs20,
                                                        fillV (fun i => some (i * 1, 1)) [CV.i IntKind.u8 0, CV.i IntKind.u8 0, CV.i IntKind.u8 0]
                                                              [(0, CV.i IntKind.u8 r12), (1, CV.i IntKind.u8 r16), (2, CV.i IntKind.u8 r19)] =
                                                            some cs20 ∧
                                                          ∃ v21 A22, appendA Tryz.prog (A.push (AObj.mk cs20 5 0 0 false false)) 22 22 s0 (CV.se A.next 0 3 3) = some (v21, A22) ∧ Q v21 A22)
              (vcIf (decide (65535 < r0))
                (vcIf (decide (r0 ≤ 1114111))
                  (∃ r23,
                    shiftA BinOp.shr IntKind.i32 s1 18 = some (CV.i IntKind.i32 r23) ∧
                      ∃ r24,
                        r24 = IntKind.u8.wrap r23 ∧
                          ∃ r25,
                            intBin BinOp.or IntKind.u8 240 r24 = some (CV.i IntKind.u8 r25) ∧
                              ∃ r26,
                                shiftA BinOp.shr IntKind.i32 s1 12 = some (CV.i IntKind.i32 r26) ∧
                                  ∃ r27,
                                    r27 = IntKind.u8.wrap r26 ∧
                                      ∃ r28,
                                        intBin BinOp.and IntKind.u8 r27 63 = some (CV.i IntKind.u8 r28) ∧
                                          ∃ r29,
                                            intBin BinOp.or IntKind.u8 128 r28 = some (CV.i IntKind.u8 r29) ∧
                                              ∃ r30,
                                                shiftA BinOp.shr IntKind.i32 s1 6 = some (CV.i IntKind.i32 r30) ∧
                                                  ∃ r31,
                                                    r31 = IntKind.u8.wrap r30 ∧
                                                      ∃ r32,
                                                        intBin BinOp.and IntKind.u8 r31 63 = some (CV.i IntKind.u8 r32) ∧
                                                          ∃ r33,
                                                            intBin BinOp.or IntKind.u8 128 r32 = some (CV.i IntKind.u8 r33) ∧
                                                              ∃ r34,
                                                                r34 = IntKind.u8.wrap s1 ∧
                                                                  ∃ r35,
                                                                    intBin BinOp.and IntKind.u8 r34 63 = some (CV.i IntKind.u8 r35) ∧
                                                                      ∃ r36,
                                                                        intBin BinOp.or IntKind.u8 128 r35 = some (CV.i IntKind.u8 r36) ∧
                                                                          ∃ cs37,
                                                                            fillV (fun i => some (i * 1, 1)) [CV.i IntKind.u8 0, CV.i IntKind.u8 0, CV.i IntKind.u8 0, CV.i IntKind.u8 0]
                                                                                  [(0, CV.i IntKind.u8 r25), (1, CV.i IntKind.u8 r29), (2, CV.i IntKind.u8 r33), (3, CV.i IntKind.u8 r36)] =
                                                                                some cs37 ∧
                                                                              ∃ v38 A39,
                                                                                appendA Tryz.prog (A.push (AObj.mk cs37 5 0 0 false false)) 22 22 s0 (CV.se A.next 0 4 4) = some (v38, A39) ∧ Q v38 A39)
                  (∃ cs40,
                    fillV (fun i => some (i * 1, 1)) [CV.i IntKind.u8 0, CV.i IntKind.u8 0, CV.i IntKind.u8 0] [(0, CV.i IntKind.u8 239), (1, CV.i IntKind.u8 191), (2, CV.i IntKind.u8 189)] = some cs40 ∧
                      ∃ v41 A42, appendA Tryz.prog (A.push (AObj.mk cs40 5 0 0 false false)) 22 22 s0 (CV.se A.next 0 3 3) = some (v41, A42) ∧ Q v41 A42))
                (∃ cs43,
                  fillV (fun i => some (i * 1, 1)) [CV.i IntKind.u8 0, CV.i IntKind.u8 0, CV.i IntKind.u8 0] [(0, CV.i IntKind.u8 239), (1, CV.i IntKind.u8 191), (2, CV.i IntKind.u8 189)] = some cs43 ∧
                    ∃ v44 A45, appendA Tryz.prog (A.push (AObj.mk cs43 5 0 0 false false)) 22 22 s0 (CV.se A.next 0 3 3) = some (v44, A45) ∧ Q v44 A45)))
            (vcIf (decide (57343 < r0))
              (vcIf (decide (r0 ≤ 65535))
                (∃ r46,
                  shiftA BinOp.shr IntKind.i32 s1 12 = some (CV.i IntKind.i32 r46) ∧
                    ∃ r47,
                      r47 = IntKind.u8.wrap r46 ∧
                        ∃ r48,
                          intBin BinOp.or IntKind.u8 224 r47 = some (CV.i IntKind.u8 r48) ∧
                            ∃ r49,
                              shiftA BinOp.shr IntKind.i32 s1 6 = some (CV.i IntKind.i32 r49) ∧
                                ∃ r50,
                                  r50 = IntKind.u8.wrap r49 ∧
                                    ∃ r51,
                                      intBin BinOp.and IntKind.u8 r50 63 = some (CV.i IntKind.u8 r51) ∧
                                        ∃ r52,
                                          intBin BinOp.or IntKind.u8 128 r51 = some (CV.i IntKind.u8 r52) ∧
                                            ∃ r53,
                                              r53 = IntKind.u8.wrap s1 ∧
                                                ∃ r54,
                                                  intBin BinOp.and IntKind.u8 r53 63 = some (CV.i IntKind.u8 r54) ∧
                                                    ∃ r55,
                                                      intBin BinOp.or IntKind.u8 128 r54 = some (CV.i IntKind.u8 r55) ∧
                                                        ∃ cs56,
                                                          fillV (fun i => some (i * 1, 1)) [CV.i IntKind.u8 0, CV.i IntKind.u8 0, CV.i IntKind.u8 0]
                                                                [(0, CV.i IntKind.u8 r48), (1, CV.i IntKind.u8 r52), (2, CV.i IntKind.u8 r55)] =
                                                              some cs56 ∧
                                                            ∃ v57 A58, appendA Tryz.prog (A.push (AObj.mk cs56 5 0 0 false false)) 22 22 s0 (CV.se A.next 0 3 3) = some (v57, A58) ∧ Q v57 A58)
                (vcIf (decide (65535 < r0))
                  (vcIf (decide (r0 ≤ 1114111))
                    (∃ r59,
                      shiftA BinOp.shr IntKind.i32 s1 18 = some (CV.i IntKind.i32 r59) ∧
                        ∃ r60,
                          r60 = IntKind.u8.wrap r59 ∧
                            ∃ r61,
                              intBin BinOp.or IntKind.u8 240 r60 = some (CV.i IntKind.u8 r61) ∧
                                ∃ r62,
                                  shiftA BinOp.shr IntKind.i32 s1 12 = some (CV.i IntKind.i32 r62) ∧
                                    ∃ r63,
                                      r63 = IntKind.u8.wrap r62 ∧
                                        ∃ r64,
                                          intBin BinOp.and IntKind.u8 r63 63 = some (CV.i IntKind.u8 r64) ∧
                                            ∃ r65,
                                              intBin BinOp.or IntKind.u8 128 r64 = some (CV.i IntKind.u8 r65) ∧
                                                ∃ r66,
                                                  shiftA BinOp.shr IntKind.i32 s1 6 = some (CV.i IntKind.i32 r66) ∧
                                                    ∃ r67,
                                                      r67 = IntKind.u8.wrap r66 ∧
                                                        ∃ r68,
                                                          intBin BinOp.and IntKind.u8 r67 63 = some (CV.i IntKind.u8 r68) ∧
                                                            ∃ r69,
                                                              intBin BinOp.or IntKind.u8 128 r68 = some (CV.i IntKind.u8 r69) ∧
                                                                ∃ r70,
                                                                  r70 = IntKind.u8.wrap s1 ∧
                                                                    ∃ r71,
                                                                      intBin BinOp.and IntKind.u8 r70 63 = some (CV.i IntKind.u8 r71) ∧
                                                                        ∃ r72,
                                                                          intBin BinOp.or IntKind.u8 128 r71 = some (CV.i IntKind.u8 r72) ∧
                                                                            ∃ cs73,
                                                                              fillV (fun i => some (i * 1, 1)) [CV.i IntKind.u8 0, CV.i IntKind.u8 0, CV.i IntKind.u8 0, CV.i IntKind.u8 0]
                                                                                    [(0, CV.i IntKind.u8 r61), (1, CV.i IntKind.u8 r65), (2, CV.i IntKind.u8 r69), (3, CV.i IntKind.u8 r72)] =
                                                                                  some cs73 ∧
                                                                                ∃ v74 A75,
                                                                                  appendA Tryz.prog (A.push (AObj.mk cs73 5 0 0 false false)) 22 22 s0 (CV.se A.next 0 4 4) = some (v74, A75) ∧ Q v74 A75)
                    (∃ cs76,
                      fillV (fun i => some (i * 1, 1)) [CV.i IntKind.u8 0, CV.i IntKind.u8 0, CV.i IntKind.u8 0] [(0, CV.i IntKind.u8 239), (1, CV.i IntKind.u8 191), (2, CV.i IntKind.u8 189)] =
                          some cs76 ∧
                        ∃ v77 A78, appendA Tryz.prog (A.push (AObj.mk cs76 5 0 0 false false)) 22 22 s0 (CV.se A.next 0 3 3) = some (v77, A78) ∧ Q v77 A78))
                  (∃ cs79,
                    fillV (fun i => some (i * 1, 1)) [CV.i IntKind.u8 0, CV.i IntKind.u8 0, CV.i IntKind.u8 0] [(0, CV.i IntKind.u8 239), (1, CV.i IntKind.u8 191), (2, CV.i IntKind.u8 189)] = some cs79 ∧
                      ∃ v80 A81, appendA Tryz.prog (A.push (AObj.mk cs79 5 0 0 false false)) 22 22 s0 (CV.se A.next 0 3 3) = some (v80, A81) ∧ Q v80 A81)))
              (vcIf (decide (65535 < r0))
                (vcIf (decide (r0 ≤ 1114111))
                  (∃ r82,
                    shiftA BinOp.shr IntKind.i32 s1 18 = some (CV.i IntKind.i32 r82) ∧
                      ∃ r83,
                        r83 = IntKind.u8.wrap r82 ∧
                          ∃ r84,
                            intBin BinOp.or IntKind.u8 240 r83 = some (CV.i IntKind.u8 r84) ∧
                              ∃ r85,
                                shiftA BinOp.shr IntKind.i32 s1 12 = some (CV.i IntKind.i32 r85) ∧
                                  ∃ r86,
                                    r86 = IntKind.u8.wrap r85 ∧
                                      ∃ r87,
                                        intBin BinOp.and IntKind.u8 r86 63 = some (CV.i IntKind.u8 r87) ∧
                                          ∃ r88,
                                            intBin BinOp.or IntKind.u8 128 r87 = some (CV.i IntKind.u8 r88) ∧
                                              ∃ r89,
                                                shiftA BinOp.shr IntKind.i32 s1 6 = some (CV.i IntKind.i32 r89) ∧
                                                  ∃ r90,
                                                    r90 = IntKind.u8.wrap r89 ∧
                                                      ∃ r91,
                                                        intBin BinOp.and IntKind.u8 r90 63 = some (CV.i IntKind.u8 r91) ∧
                                                          ∃ r92,
                                                            intBin BinOp.or IntKind.u8 128 r91 = some (CV.i IntKind.u8 r92) ∧
                                                              ∃ r93,
                                                                r93 = IntKind.u8.wrap s1 ∧
                                                                  ∃ r94,
                                                                    intBin BinOp.and IntKind.u8 r93 63 = some (CV.i IntKind.u8 r94) ∧
                                                                      ∃ r95,
                                                                        intBin BinOp.or IntKind.u8 128 r94 = some (CV.i IntKind.u8 r95) ∧
                                                                          ∃ cs96,
                                                                            fillV (fun i => some (i * 1, 1)) [CV.i IntKind.u8 0, CV.i IntKind.u8 0, CV.i IntKind.u8 0, CV.i IntKind.u8 0]
                                                                                  [(0, CV.i IntKind.u8 r84), (1, CV.i IntKind.u8 r88), (2, CV.i IntKind.u8 r92), (3, CV.i IntKind.u8 r95)] =
                                                                                some cs96 ∧
                                                                              ∃ v97 A98,
                                                                                appendA Tryz.prog (A.push (AObj.mk cs96 5 0 0 false false)) 22 22 s0 (CV.se A.next 0 4 4) = some (v97, A98) ∧ Q v97 A98)
                  (∃ cs99,
                    fillV (fun i => some (i * 1, 1)) [CV.i IntKind.u8 0, CV.i IntKind.u8 0, CV.i IntKind.u8 0] [(0, CV.i IntKind.u8 239), (1, CV.i IntKind.u8 191), (2, CV.i IntKind.u8 189)] = some cs99 ∧
                      ∃ v100 A101, appendA Tryz.prog (A.push (AObj.mk cs99 5 0 0 false false)) 22 22 s0 (CV.se A.next 0 3 3) = some (v100, A101) ∧ Q v100 A101))
                (∃ cs102,
                  fillV (fun i => some (i * 1, 1)) [CV.i IntKind.u8 0, CV.i IntKind.u8 0, CV.i IntKind.u8 0] [(0, CV.i IntKind.u8 239), (1, CV.i IntKind.u8 191), (2, CV.i IntKind.u8 189)] = some cs102 ∧
                    ∃ v103 A104, appendA Tryz.prog (A.push (AObj.mk cs102 5 0 0 false false)) 22 22 s0 (CV.se A.next 0 3 3) = some (v103, A104) ∧ Q v103 A104))))) :
    WF Tryz.prog w0 (resOf Tryz.prog 162) (subC [] (codeOf Tryz.prog 162)) 78 fr A Q :=
  WF.of fit (stops := []) hfr (Eq.mp (by kernel_rfl) h)
theorem v7 {w0 : World} {fr : T CV} {s0 : CV} {s1 : CV} {A : AW} {Q : CV → AW → Prop} (hfr : Fr fr [(0, s0), (1, s1)])
    (h : ∀ (fr0 : T CV),
      Fr fr0 [(0, s0), (1, s1), (5, CV.s []), (6, CV.i IntKind.i64 0)] →
        W Tryz.prog w0 (subC [1, 1, 0, 1] (codeOf Tryz.prog 7)) 66 (St.mk fr0 A)
          (onNormal (fun st => W Tryz.prog w0 (subC [1, 1, 1] (codeOf Tryz.prog 7)) 66 st (endF Tryz.prog (resOf Tryz.prog 7) Q)) (endF Tryz.prog (resOf Tryz.prog 7) Q))) :
    WF Tryz.prog w0 (resOf Tryz.prog 7) (subC [] (codeOf Tryz.prog 7)) 66 fr A Q :=
  WF.of fit (stops := [(1, [0, 1, 5, 6])]) hfr (Eq.mp (by kernel_rfl) h)
theorem v7_111 {w0 : World} {fr : T CV} {s5 : List Nat} {A : AW} {Q : CV → AW → Prop} (hfr : Fr fr [(5, .s s5)])
    (h : Q (CV.s s5) A) :
    WF Tryz.prog w0 (resOf Tryz.prog 7) (subC [1, 1, 1] (codeOf Tryz.prog 7)) 66 fr A Q :=
  WF.of fit (stops := [(1, [0, 1, 5, 6])]) hfr (Eq.mp (by kernel_rfl) h)
theorem v7_110100 {w0 : World} {fr : T CV} {s0 : CV} {s1 : CV} {s5 : List Nat} {s6 : Int} {A : AW} {K : Ex → St → Prop} (hfr : Fr fr [(0, s0), (1, s1), (5, .s s5), (6, .i .i64 s6)])
    (h : ∃ m0,
      builtinV Tryz.prog Builtin.len [23] [s1] = some (CV.i IntKind.i64 (Int.ofNat m0)) ∧
        vcIf (decide (s6 < Int.ofNat m0))
          (∃ b1 o2,
            indexAddrA Tryz.prog A 23 s1 (CV.i IntKind.i64 s6) = some (CV.p b1 o2) ∧
              ∃ x3,
                loadA Tryz.prog A 3 b1 (o2 + 1) = some (CV.i IntKind.i64 x3) ∧
                  F Tryz.prog w0 20 [s0, CV.i IntKind.i64 x3] A fun v4 A5 =>
                    ∃ l6,
                      v4 = CV.s l6 ∧
                        l6.length + 1 < 1099511627776 ∧
                          s5.length + (l6 ++ [32]).length < 1099511627776 ∧
                            ∃ b7 o8,
                              indexAddrA Tryz.prog A5 23 s1 (CV.i IntKind.i64 s6) = some (CV.p b7 o8) ∧
                                ∃ x9,
                                  loadA Tryz.prog A5 36 b7 (o8 + 0) = some (CV.i IntKind.i64 x9) ∧
                                    vcIf (decide (x9 = 170))
                                      (∃ b10 o11,
                                        indexAddrA Tryz.prog A5 23 s1 (CV.i IntKind.i64 s6) = some (CV.p b10 o11) ∧
                                          ∃ x12,
                                            loadA Tryz.prog A5 3 b10 (o11 + 1) = some (CV.i IntKind.i64 x12) ∧
                                              ∃ b13 o14,
                                                indexAddrA Tryz.prog A5 23 s1 (CV.i IntKind.i64 s6) = some (CV.p b13 o14) ∧
                                                  ∃ x15,
                                                    loadA Tryz.prog A5 3 b13 (o14 + 2) = some (CV.i IntKind.i64 x15) ∧
                                                      F Tryz.prog w0 22 [s0, CV.i IntKind.i64 x12, CV.i IntKind.i64 x15] A5 fun v16 A17 =>
                                                        ∃ l18,
                                                          v16 = CV.s l18 ∧
                                                            CV.s (s5 ++ (l6 ++ [32])) = CV.s (s5 ++ (l6 ++ [32])) ∧
                                                              F Tryz.prog w0 21 [CV.s l18] A17 fun v19 A20 =>
                                                                ∃ l21,
                                                                  v19 = CV.s l21 ∧
                                                                    CV.s (s5 ++ (l6 ++ [32])) = CV.s (s5 ++ (l6 ++ [32])) ∧
                                                                      21 + l21.length < 1099511627776 ∧
                                                                        (s5 ++ (l6 ++ [32])).length +
                                                                              ([110, 111, 32, 116, 111, 107, 101, 110, 32, 98, 101, 103, 105, 110, 115, 32, 119, 105, 116, 104, 32] ++ l21).length <
                                                                            1099511627776 ∧
                                                                          ∀ (fr22 : T CV),
                                                                            Fr fr22
                                                                                [(0, s0), (1, s1),
                                                                                  (5,
                                                                                    CV.s
                                                                                      (s5 ++ (l6 ++ [32]) ++
                                                                                        ([110, 111, 32, 116, 111, 107, 101, 110, 32, 98, 101, 103, 105, 110, 115, 32, 119, 105, 116, 104, 32] ++ l21))),
                                                                                  (6, CV.i IntKind.i64 s6)] →
                                                                              W Tryz.prog w0 (subC [1, 1, 0, 1, 0, 0, 1, 0, 0, 1, 1] (codeOf Tryz.prog 7)) 66 (St.mk fr22 A20)
                                                                                (onExit 1
                                                                                  (onNormal
                                                                                    (fun st =>
                                                                                      W Tryz.prog w0 (subC [1, 1, 0, 1, 0, 0, 1, 1] (codeOf Tryz.prog 7)) 66 st
                                                                                        (leaf
                                                                                          (fun e =>
                                                                                            match e with
                                                                                            | Ex.normal => [0, 1, 5, 6]
                                                                                            | Ex.exit 0 => [5]
                                                                                            | Ex.ret => [4]
                                                                                            | x => [])
                                                                                          K))
                                                                                    (leaf
                                                                                      (fun e =>
                                                                                        match e with
                                                                                        | Ex.normal => [0, 1, 5, 6]
                                                                                        | Ex.exit 0 => [5]
                                                                                        | Ex.ret => [4]
                                                                                        | x => [])
                                                                                      K))))
                                      (vcIf (decide (x9 = 171))
                                        ((s5 ++ (l6 ++ [32])).length + 21 < 1099511627776 ∧
                                          ∀ (fr24 : T CV),
                                            Fr fr24
                                                [(0, s0), (1, s1), (5, CV.s (s5 ++ (l6 ++ [32]) ++ [110, 111, 32, 109, 111, 100, 101, 32, 116, 111, 32, 103, 111, 32, 98, 97, 99, 107, 32, 116, 111])),
                                                  (6, CV.i IntKind.i64 s6)] →
                                              W Tryz.prog w0 (subC [1, 1, 0, 1, 0, 0, 1, 0, 0, 1, 1] (codeOf Tryz.prog 7)) 66 (St.mk fr24 A5)
                                                (onExit 1
                                                  (onNormal
                                                    (fun st =>
                                                      W Tryz.prog w0 (subC [1, 1, 0, 1, 0, 0, 1, 1] (codeOf Tryz.prog 7)) 66 st
                                                        (leaf
                                                          (fun e =>
                                                            match e with
                                                            | Ex.normal => [0, 1, 5, 6]
                                                            | Ex.exit 0 => [5]
                                                            | Ex.ret => [4]
                                                            | x => [])
                                                          K))
                                                    (leaf
                                                      (fun e =>
                                                        match e with
                                                        | Ex.normal => [0, 1, 5, 6]
                                                        | Ex.exit 0 => [5]
                                                        | Ex.ret => [4]
                                                        | x => [])
                                                      K))))
                                        (vcIf (decide (x9 = 3))
                                          ((s5 ++ (l6 ++ [32])).length + 14 < 1099511627776 ∧
                                            ∀ (fr26 : T CV),
                                              Fr fr26 [(0, s0), (1, s1), (5, CV.s (s5 ++ (l6 ++ [32]) ++ [116, 111, 111, 32, 109, 97, 110, 121, 32, 109, 111, 100, 101, 115])), (6, CV.i IntKind.i64 s6)] →
                                                W Tryz.prog w0 (subC [1, 1, 0, 1, 0, 0, 1, 0, 0, 1, 1] (codeOf Tryz.prog 7)) 66 (St.mk fr26 A5)
                                                  (onExit 1
                                                    (onNormal
                                                      (fun st =>
                                                        W Tryz.prog w0 (subC [1, 1, 0, 1, 0, 0, 1, 1] (codeOf Tryz.prog 7)) 66 st
                                                          (leaf
                                                            (fun e =>
                                                              match e with
                                                              | Ex.normal => [0, 1, 5, 6]
                                                              | Ex.exit 0 => [5]
                                                              | Ex.ret => [4]
                                                              | x => [])
                                                            K))
                                                      (leaf
                                                        (fun e =>
                                                          match e with
                                                          | Ex.normal => [0, 1, 5, 6]
                                                          | Ex.exit 0 => [5]
                                                          | Ex.ret => [4]
                                                          | x => [])
                                                        K))))
                                          (∃ b28 o29,
                                            indexAddrA Tryz.prog A5 23 s1 (CV.i IntKind.i64 s6) = some (CV.p b28 o29) ∧
                                              ∃ x30,
                                                loadA Tryz.prog A5 36 b28 (o29 + 0) = some (CV.i IntKind.i64 x30) ∧
                                                  F Tryz.prog w0 23 [CV.i IntKind.i64 x30] A5 fun v31 A32 =>
                                                    ∃ l33,
                                                      v31 = CV.s l33 ∧
                                                        6 + l33.length < 1099511627776 ∧
                                                          (s5 ++ (l6 ++ [32])).length + ([101, 114, 114, 111, 114, 32] ++ l33).length < 1099511627776 ∧
                                                            ∀ (fr34 : T CV),
                                                              Fr fr34 [(0, s0), (1, s1), (5, CV.s (s5 ++ (l6 ++ [32]) ++ ([101, 114, 114, 111, 114, 32] ++ l33))), (6, CV.i IntKind.i64 s6)] →
                                                                W Tryz.prog w0 (subC [1, 1, 0, 1, 0, 0, 1, 0, 0, 1, 1] (codeOf Tryz.prog 7)) 66 (St.mk fr34 A32)
                                                                  (onExit 1
                                                                    (onNormal
                                                                      (fun st =>
                                                                        W Tryz.prog w0 (subC [1, 1, 0, 1, 0, 0, 1, 1] (codeOf Tryz.prog 7)) 66 st
                                                                          (leaf
                                                                            (fun e =>
                                                                              match e with
                                                                              | Ex.normal => [0, 1, 5, 6]
                                                                              | Ex.exit 0 => [5]
                                                                              | Ex.ret => [4]
                                                                              | x => [])
                                                                            K))
                                                                      (leaf
                                                                        (fun e =>
                                                                          match e with
                                                                          | Ex.normal => [0, 1, 5, 6]
                                                                          | Ex.exit 0 => [5]
                                                                          | Ex.ret => [4]
                                                                          | x => [])
                                                                        K)))))))
          (∀ (fr36 : T CV), Fr fr36 [(5, CV.s s5)] → K (Ex.exit 0) (St.mk fr36 A))) :
    W Tryz.prog w0 (subC [1, 1, 0, 1, 0, 0] (codeOf Tryz.prog 7)) 66 ⟨fr, A⟩ K :=
  W.of fit (stops := [(28, [0, 1, 5, 6]), (8, [0, 1, 5, 6])]) (fun e => match e with | .normal => [0, 1, 5, 6] | .exit 0 => [5] | .ret => [4] | _ => []) hfr (Eq.mp (by kernel_rfl) h)
theorem v7_11010010011 {w0 : World} {fr : T CV} {s0 : CV} {s1 : CV} {s5 : List Nat} {s6 : Int} {A : AW} {K : Ex → St → Prop} (hfr : Fr fr [(0, s0), (1, s1), (5, .s s5), (6, .i .i64 s6)])
    (h : s5.length + 1 < 1099511627776 ∧ ∀ (fr0 : T CV), Fr fr0 [(0, s0), (1, s1), (5, CV.s (s5 ++ [10])), (6, CV.i IntKind.i64 s6)] → K Ex.normal (St.mk fr0 A)) :
    W Tryz.prog w0 (subC [1, 1, 0, 1, 0, 0, 1, 0, 0, 1, 1] (codeOf Tryz.prog 7)) 66 ⟨fr, A⟩ K :=
  W.of fit (stops := [(8, [0, 1, 5, 6])]) (fun e => match e with | .normal => [0, 1, 5, 6] | .exit 1 => [0, 1, 5, 6] | .exit 0 => [5] | .ret => [4] | _ => []) hfr (Eq.mp (by kernel_rfl) h)
theorem v7_11010011 {w0 : World} {fr : T CV} {s0 : CV} {s1 : CV} {s5 : List Nat} {s6 : Int} {A : AW} {K : Ex → St → Prop} (hfr : Fr fr [(0, s0), (1, s1), (5, .s s5), (6, .i .i64 s6)])
    (h : ∃ r0, r0 = IntKind.i64.wrap (s6 + 1) ∧ ∀ (fr1 : T CV), Fr fr1 [(0, s0), (1, s1), (5, CV.s s5), (6, CV.i IntKind.i64 r0)] → K Ex.normal (St.mk fr1 A)) :
    W Tryz.prog w0 (subC [1, 1, 0, 1, 0, 0, 1, 1] (codeOf Tryz.prog 7)) 66 ⟨fr, A⟩ K :=
  W.of fit (stops := [(28, [0, 1, 5, 6])]) (fun e => match e with | .normal => [0, 1, 5, 6] | .exit 0 => [5] | .ret => [4] | _ => []) hfr (Eq.mp (by kernel_rfl) h)
theorem v20 {w0 : World} {fr : T CV} {s0 : CV} {s1 : Int} {A : AW} {Q : CV → AW → Prop} (hfr : Fr fr [(0, s0), (1, .i .i64 s1)])
    (h : F Tryz.prog w0 55 [s0, CV.i IntKind.i64 s1] A fun v0 A1 =>
      ∃ x2 x3,
        v0 = CV.t [CV.i IntKind.i64 x2, CV.i IntKind.i64 x3] ∧
          F Tryz.prog w0 23 [CV.i IntKind.i64 x2] A1 fun v4 A5 =>
            ∃ l6,
              v4 = CV.s l6 ∧
                l6.length + 1 < 1099511627776 ∧
                  F Tryz.prog w0 23 [CV.i IntKind.i64 x3] A5 fun v7 A8 => ∃ l9, v7 = CV.s l9 ∧ (l6 ++ [58]).length + l9.length < 1099511627776 ∧ Q (CV.s (l6 ++ [58] ++ l9)) A8) :
    WF Tryz.prog w0 (resOf Tryz.prog 20) (subC [] (codeOf Tryz.prog 20)) 19 fr A Q :=
  WF.of fit (stops := []) hfr (Eq.mp (by kernel_rfl) h)
theorem v21 {w0 : World} {fr : T CV} {s0 : List Nat} {A : AW} {Q : CV → AW → Prop} (hfr : Fr fr [(0, .s s0)])
    (h : ∃ v0 A1,
      s2bA Tryz.prog A 9 22 (CV.s s0) = some (v0, A1) ∧
        F Tryz.prog w0 56 [v0] A1 fun v2 A3 =>
          ∃ v4,
            v2 = v4 ∧
              ∀ (fr5 : T CV),
                Fr fr5 [(3, CV.s [39]), (4, v4), (5, CV.i IntKind.i64 0)] →
                  W Tryz.prog w0 (subC [1, 1, 1, 0, 1] (codeOf Tryz.prog 21)) 25 (St.mk fr5 A3)
                    (onNormal (fun st => W Tryz.prog w0 (subC [1, 1, 1, 1] (codeOf Tryz.prog 21)) 25 st (endF Tryz.prog (resOf Tryz.prog 21) Q)) (endF Tryz.prog (resOf Tryz.prog 21) Q))) :
    WF Tryz.prog w0 (resOf Tryz.prog 21) (subC [] (codeOf Tryz.prog 21)) 25 fr A Q :=
  WF.of fit (stops := [(1, [3, 4, 5])]) hfr (Eq.mp (by kernel_rfl) h)
theorem v21_1111 {w0 : World} {fr : T CV} {s3 : List Nat} {A : AW} {Q : CV → AW → Prop} (hfr : Fr fr [(3, .s s3)])
    (h : s3.length + 1 < 1099511627776 ∧ Q (CV.s (s3 ++ [39])) A) :
    WF Tryz.prog w0 (resOf Tryz.prog 21) (subC [1, 1, 1, 1] (codeOf Tryz.prog 21)) 25 fr A Q :=
  WF.of fit (stops := [(1, [3, 4, 5])]) hfr (Eq.mp (by kernel_rfl) h)
theorem v21_1110100 {w0 : World} {fr : T CV} {s3 : List Nat} {s4 : CV} {s5 : Int} {A : AW} {K : Ex → St → Prop} (hfr : Fr fr [(3, .s s3), (4, s4), (5, .i .i64 s5)])
    (h : ∃ m0,
      builtinV Tryz.prog Builtin.len [116] [s4] = some (CV.i IntKind.i64 (Int.ofNat m0)) ∧
        vcIf (decide (s5 < Int.ofNat m0))
          (∃ b1 o2,
            indexAddrA Tryz.prog A 116 s4 (CV.i IntKind.i64 s5) = some (CV.p b1 o2) ∧
              ∃ x3,
                loadA Tryz.prog A 21 b1 (o2 + 1) = some (CV.i IntKind.i32 x3) ∧
                  F Tryz.prog w0 57 [CV.i IntKind.i32 x3, CV.s [39]] A fun v4 A5 =>
                    ∃ l6,
                      v4 = CV.s l6 ∧
                        s3.length + l6.length < 1099511627776 ∧
                          ∃ r7, r7 = IntKind.i64.wrap (s5 + 1) ∧ ∀ (fr8 : T CV), Fr fr8 [(3, CV.s (s3 ++ l6)), (4, s4), (5, CV.i IntKind.i64 r7)] → K Ex.normal (St.mk fr8 A5))
          (∀ (fr10 : T CV), Fr fr10 [(3, CV.s s3)] → K (Ex.exit 0) (St.mk fr10 A))) :
    W Tryz.prog w0 (subC [1, 1, 1, 0, 1, 0, 0] (codeOf Tryz.prog 21)) 25 ⟨fr, A⟩ K :=
  W.of fit (stops := []) (fun e => match e with | .normal => [3, 4, 5] | .exit 0 => [3] | .ret => [2] | _ => []) hfr (Eq.mp (by kernel_rfl) h)
theorem v22 {w0 : World} {fr : T CV} {s0 : CV} {s1 : Int} {s2 : Int} {A : AW} {Q : CV → AW → Prop} (hfr : Fr fr [(0, s0), (1, .i .i64 s1), (2, .i .i64 s2)])
    (h : ∃ m0,
      builtinV Tryz.prog Builtin.len [22] [s0] = some (CV.i IntKind.i64 (Int.ofNat m0)) ∧
        ∃ m1,
          builtinV Tryz.prog Builtin.len [22] [s0] = some (CV.i IntKind.i64 (Int.ofNat m1)) ∧
            ∃ v2,
              sliceV Tryz.prog A 22 s0 (some (CV.i IntKind.i64 (min (max s1 0) (Int.ofNat m0)))) (some (CV.i IntKind.i64 (min (max s2 (min (max s1 0) (Int.ofNat m0))) (Int.ofNat m1)))) none = some v2 ∧
                ∃ l3, convA Tryz.prog A 22 9 v2 = some (CV.s l3) ∧ Q (CV.s l3) A) :
    WF Tryz.prog w0 (resOf Tryz.prog 22) (subC [] (codeOf Tryz.prog 22)) 23 fr A Q :=
  WF.of fit (stops := []) hfr (Eq.mp (by kernel_rfl) h)
theorem v23 {w0 : World} {fr : T CV} {s0 : Int} {A : AW} {Q : CV → AW → Prop} (hfr : Fr fr [(0, .i .i64 s0)])
    (h : vcIf (decide (s0 < 0))
      (∃ r0,
        r0 = IntKind.i64.wrap (s0 + 1) ∧
          ∃ r1,
            r1 = IntKind.i64.wrap (0 - r0) ∧
              ∃ r2,
                r2 = IntKind.u64.wrap r1 ∧
                  ∃ r3, r3 = IntKind.u64.wrap (r2 + 1) ∧ F Tryz.prog w0 58 [CV.i IntKind.u64 r3] A fun v4 A5 => ∃ l6, v4 = CV.s l6 ∧ 1 + l6.length < 1099511627776 ∧ Q (CV.s ([45] ++ l6)) A5)
      (∃ r7, r7 = IntKind.u64.wrap s0 ∧ F Tryz.prog w0 58 [CV.i IntKind.u64 r7] A fun v8 A9 => ∃ l10, v8 = CV.s l10 ∧ Q (CV.s l10) A9)) :
    WF Tryz.prog w0 (resOf Tryz.prog 23) (subC [] (codeOf Tryz.prog 23)) 15 fr A Q :=
  WF.of fit (stops := []) hfr (Eq.mp (by kernel_rfl) h)
theorem v29 {w0 : World} {fr : T CV} {s0 : CV} {s1 : Int} {A : AW} {Q : CV → AW → Prop} (hfr : Fr fr [(0, s0), (1, .i .i64 s1)])
    (h : vcIf (decide (s1 < 0)) (Q (CV.t [CV.i IntKind.i32 (-1), CV.i IntKind.i64 0]) A)
      (∃ m0,
        builtinV Tryz.prog Builtin.len [22] [s0] = some (CV.i IntKind.i64 (Int.ofNat m0)) ∧
          vcIf (decide (Int.ofNat m0 ≤ s1)) (Q (CV.t [CV.i IntKind.i32 (-1), CV.i IntKind.i64 0]) A)
            (∃ b1 o2,
              indexAddrA Tryz.prog A 22 s0 (CV.i IntKind.i64 s1) = some (CV.p b1 o2) ∧
                ∃ x3,
                  loadA Tryz.prog A 5 b1 o2 = some (CV.i IntKind.u8 x3) ∧
                    ∃ r4,
                      r4 = IntKind.i32.wrap x3 ∧
                        vcIf (decide (192 ≤ r4))
                          (vcIf (decide (r4 < 224))
                            (∃ r5,
                              intBin BinOp.and IntKind.i32 r4 31 = some (CV.i IntKind.i32 r5) ∧
                                ∀ (fr6 : T CV),
                                  Fr fr6 [(0, s0), (1, CV.i IntKind.i64 s1), (6, CV.i IntKind.i32 r4), (7, CV.i IntKind.i64 2), (8, CV.i IntKind.i32 r5), (9, CV.i IntKind.i32 128)] →
                                    WF Tryz.prog w0 (resOf Tryz.prog 29) (subC [1, 1, 1, 1, 1, 1, 1] (codeOf Tryz.prog 29)) 99 fr6 A Q)
                            (∀ (fr8 : T CV),
                              Fr fr8 [(0, s0), (1, CV.i IntKind.i64 s1), (6, CV.i IntKind.i32 r4), (7, CV.i IntKind.i64 1), (8, CV.i IntKind.i32 r4), (9, CV.i IntKind.i32 0)] →
                                WF Tryz.prog w0 (resOf Tryz.prog 29) (subC [1, 1, 1, 1, 1, 1, 1] (codeOf Tryz.prog 29)) 99 fr8 A Q))
                          (∀ (fr10 : T CV),
                            Fr fr10 [(0, s0), (1, CV.i IntKind.i64 s1), (6, CV.i IntKind.i32 r4), (7, CV.i IntKind.i64 1), (8, CV.i IntKind.i32 r4), (9, CV.i IntKind.i32 0)] →
                              WF Tryz.prog w0 (resOf Tryz.prog 29) (subC [1, 1, 1, 1, 1, 1, 1] (codeOf Tryz.prog 29)) 99 fr10 A Q)))) :
    WF Tryz.prog w0 (resOf Tryz.prog 29) (subC [] (codeOf Tryz.prog 29)) 99 fr A Q :=
  WF.of fit (stops := [(22, [0, 1, 6, 7, 8, 9]), (30, [0, 1, 6, 7, 8, 9]), (38, [0, 1, 6, 7, 8, 9]), (1, [0, 1, 6, 7, 8, 9, 10])]) hfr (Eq.mp (by kernel_rfl) h)
theorem v29_1111111 {w0 : World} {fr : T CV} {s0 : CV} {s1 : Int} {s6 : Int} {s7 : Int} {s8 : Int} {s9 : Int} {A : AW} {Q : CV → AW → Prop} (hfr : Fr fr [(0, s0), (1, .i .i64 s1), (6, .i .i32 s6), (7, .i .i64 s7), (8, .i .i32 s8), (9, .i .i32 s9)])
    (h : vcIf (decide (224 ≤ s6))
      (vcIf (decide (s6 < 240))
        (∃ r0,
          intBin BinOp.and IntKind.i32 s6 15 = some (CV.i IntKind.i32 r0) ∧
            ∀ (fr1 : T CV),
              Fr fr1 [(0, s0), (1, CV.i IntKind.i64 s1), (6, CV.i IntKind.i32 s6), (7, CV.i IntKind.i64 3), (8, CV.i IntKind.i32 r0), (9, CV.i IntKind.i32 2048)] →
                WF Tryz.prog w0 (resOf Tryz.prog 29) (subC [1, 1, 1, 1, 1, 1, 1, 1] (codeOf Tryz.prog 29)) 99 fr1 A Q)
        (∀ (fr3 : T CV),
          Fr fr3 [(0, s0), (1, CV.i IntKind.i64 s1), (6, CV.i IntKind.i32 s6), (7, CV.i IntKind.i64 s7), (8, CV.i IntKind.i32 s8), (9, CV.i IntKind.i32 s9)] →
            WF Tryz.prog w0 (resOf Tryz.prog 29) (subC [1, 1, 1, 1, 1, 1, 1, 1] (codeOf Tryz.prog 29)) 99 fr3 A Q))
      (∀ (fr5 : T CV),
        Fr fr5 [(0, s0), (1, CV.i IntKind.i64 s1), (6, CV.i IntKind.i32 s6), (7, CV.i IntKind.i64 s7), (8, CV.i IntKind.i32 s8), (9, CV.i IntKind.i32 s9)] →
          WF Tryz.prog w0 (resOf Tryz.prog 29) (subC [1, 1, 1, 1, 1, 1, 1, 1] (codeOf Tryz.prog 29)) 99 fr5 A Q)) :
    WF Tryz.prog w0 (resOf Tryz.prog 29) (subC [1, 1, 1, 1, 1, 1, 1] (codeOf Tryz.prog 29)) 99 fr A Q :=
  WF.of fit (stops := [(30, [0, 1, 6, 7, 8, 9]), (38, [0, 1, 6, 7, 8, 9]), (1, [0, 1, 6, 7, 8, 9, 10])]) hfr (Eq.mp (by kernel_rfl) h)
theorem v29_11111111 {w0 : World} {fr : T CV} {s0 : CV} {s1 : Int} {s6 : Int} {s7 : Int} {s8 : Int} {s9 : Int} {A : AW} {Q : CV → AW → Prop} (hfr : Fr fr [(0, s0), (1, .i .i64 s1), (6, .i .i32 s6), (7, .i .i64 s7), (8, .i .i32 s8), (9, .i .i32 s9)])
    (h : vcIf (decide (240 ≤ s6))
      (vcIf (decide (s6 < 248))
        (∃ r0,
          intBin BinOp.and IntKind.i32 s6 7 = some (CV.i IntKind.i32 r0) ∧
            ∀ (fr1 : T CV),
              Fr fr1 [(0, s0), (1, CV.i IntKind.i64 s1), (6, CV.i IntKind.i32 s6), (7, CV.i IntKind.i64 4), (8, CV.i IntKind.i32 r0), (9, CV.i IntKind.i32 65536)] →
                WF Tryz.prog w0 (resOf Tryz.prog 29) (subC [1, 1, 1, 1, 1, 1, 1, 1, 1] (codeOf Tryz.prog 29)) 99 fr1 A Q)
        (∀ (fr3 : T CV),
          Fr fr3 [(0, s0), (1, CV.i IntKind.i64 s1), (6, CV.i IntKind.i32 s6), (7, CV.i IntKind.i64 s7), (8, CV.i IntKind.i32 s8), (9, CV.i IntKind.i32 s9)] →
            WF Tryz.prog w0 (resOf Tryz.prog 29) (subC [1, 1, 1, 1, 1, 1, 1, 1, 1] (codeOf Tryz.prog 29)) 99 fr3 A Q))
      (∀ (fr5 : T CV),
        Fr fr5 [(0, s0), (1, CV.i IntKind.i64 s1), (6, CV.i IntKind.i32 s6), (7, CV.i IntKind.i64 s7), (8, CV.i IntKind.i32 s8), (9, CV.i IntKind.i32 s9)] →
          WF Tryz.prog w0 (resOf Tryz.prog 29) (subC [1, 1, 1, 1, 1, 1, 1, 1, 1] (codeOf Tryz.prog 29)) 99 fr5 A Q)) :
    WF Tryz.prog w0 (resOf Tryz.prog 29) (subC [1, 1, 1, 1, 1, 1, 1, 1] (codeOf Tryz.prog 29)) 99 fr A Q :=
  WF.of fit (stops := [(22, [0, 1, 6, 7, 8, 9]), (38, [0, 1, 6, 7, 8, 9]), (1, [0, 1, 6, 7, 8, 9, 10])]) hfr (Eq.mp (by kernel_rfl) h)
theorem v29_111111111 {w0 : World} {fr : T CV} {s0 : CV} {s1 : Int} {s6 : Int} {s7 : Int} {s8 : Int} {s9 : Int} {A : AW} {Q : CV → AW → Prop} (hfr : Fr fr [(0, s0), (1, .i .i64 s1), (6, .i .i32 s6), (7, .i .i64 s7), (8, .i .i32 s8), (9, .i .i32 s9)])
    (h : ∀ (fr0 : T CV),
      Fr fr0 [(0, s0), (1, CV.i IntKind.i64 s1), (6, CV.i IntKind.i32 s6), (7, CV.i IntKind.i64 s7), (8, CV.i IntKind.i32 s8), (9, CV.i IntKind.i32 s9), (10, CV.i IntKind.i64 1)] →
        W Tryz.prog w0 (subC [1, 1, 1, 1, 1, 1, 1, 1, 1, 0, 1] (codeOf Tryz.prog 29)) 99 (St.mk fr0 A)
          (onNormal (fun st => W Tryz.prog w0 (subC [1, 1, 1, 1, 1, 1, 1, 1, 1, 1] (codeOf Tryz.prog 29)) 99 st (endF Tryz.prog (resOf Tryz.prog 29) Q)) (endF Tryz.prog (resOf Tryz.prog 29) Q))) :
    WF Tryz.prog w0 (resOf Tryz.prog 29) (subC [1, 1, 1, 1, 1, 1, 1, 1, 1] (codeOf Tryz.prog 29)) 99 fr A Q :=
  WF.of fit (stops := [(22, [0, 1, 6, 7, 8, 9]), (30, [0, 1, 6, 7, 8, 9]), (1, [0, 1, 6, 7, 8, 9, 10])]) hfr (Eq.mp (by kernel_rfl) h)
theorem v29_1111111111 {w0 : World} {fr : T CV} {s6 : Int} {s7 : Int} {s8 : Int} {s9 : Int} {A : AW} {Q : CV → AW → Prop} (hfr : Fr fr [(6, .i .i32 s6), (7, .i .i64 s7), (8, .i .i32 s8), (9, .i .i32 s9)])
    (h : vcIf (decide (s7 = 1))
      (vcIf (decide (128 ≤ s6)) (∃ r0, r0 = IntKind.i32.wrap (1114112 + s6) ∧ Q (CV.t [CV.i IntKind.i32 r0, CV.i IntKind.i64 1]) A)
        (vcIf (decide (s8 < s9)) (∃ r1, r1 = IntKind.i32.wrap (1114112 + s6) ∧ Q (CV.t [CV.i IntKind.i32 r1, CV.i IntKind.i64 1]) A)
          (vcIf (decide (1114111 < s8)) (∃ r2, r2 = IntKind.i32.wrap (1114112 + s6) ∧ Q (CV.t [CV.i IntKind.i32 r2, CV.i IntKind.i64 1]) A)
            (vcIf (decide (55296 ≤ s8))
              (vcIf (decide (s8 ≤ 57343)) (∃ r3, r3 = IntKind.i32.wrap (1114112 + s6) ∧ Q (CV.t [CV.i IntKind.i32 r3, CV.i IntKind.i64 1]) A) (Q (CV.t [CV.i IntKind.i32 s8, CV.i IntKind.i64 s7]) A))
              (Q (CV.t [CV.i IntKind.i32 s8, CV.i IntKind.i64 s7]) A)))))
      (vcIf (decide (s8 < s9)) (∃ r4, r4 = IntKind.i32.wrap (1114112 + s6) ∧ Q (CV.t [CV.i IntKind.i32 r4, CV.i IntKind.i64 1]) A)
        (vcIf (decide (1114111 < s8)) (∃ r5, r5 = IntKind.i32.wrap (1114112 + s6) ∧ Q (CV.t [CV.i IntKind.i32 r5, CV.i IntKind.i64 1]) A)
          (vcIf (decide (55296 ≤ s8))
            (vcIf (decide (s8 ≤ 57343)) (∃ r6, r6 = IntKind.i32.wrap (1114112 + s6) ∧ Q (CV.t [CV.i IntKind.i32 r6, CV.i IntKind.i64 1]) A) (Q (CV.t [CV.i IntKind.i32 s8, CV.i IntKind.i64 s7]) A))
            (Q (CV.t [CV.i IntKind.i32 s8, CV.i IntKind.i64 s7]) A))))) :
    WF Tryz.prog w0 (resOf Tryz.prog 29) (subC [1, 1, 1, 1, 1, 1, 1, 1, 1, 1] (codeOf Tryz.prog 29)) 99 fr A Q :=
  WF.of fit (stops := [(22, [0, 1, 6, 7, 8, 9]), (30, [0, 1, 6, 7, 8, 9]), (38, [0, 1, 6, 7, 8, 9]), (1, [0, 1, 6, 7, 8, 9, 10])]) hfr (Eq.mp (by kernel_rfl) h)
theorem v29_1111111110100 {w0 : World} {fr : T CV} {s0 : CV} {s1 : Int} {s6 : Int} {s7 : Int} {s8 : Int} {s9 : Int} {s10 : Int} {A : AW} {K : Ex → St → Prop} (hfr : Fr fr [(0, s0), (1, .i .i64 s1), (6, .i .i32 s6), (7, .i .i64 s7), (8, .i .i32 s8), (9, .i .i32 s9), (10, .i .i64 s10)])
    (h : vcIf (decide (s10 < s7))
      (∃ r0,
        r0 = IntKind.i64.wrap (s1 + s10) ∧
          F Tryz.prog w0 61 [s0, CV.i IntKind.i64 r0] A fun v1 A2 =>
            ∃ x3 x4,
              v1 = CV.t [CV.i IntKind.i32 x3, CV.b x4] ∧
                vcIf (!x4) (∃ r5, r5 = IntKind.i32.wrap (1114112 + s6) ∧ ∀ (fr6 : T CV), Fr fr6 [(4, CV.i IntKind.i32 r5), (5, CV.i IntKind.i64 1)] → K Ex.ret (St.mk fr6 A2))
                  (∃ r8,
                    shiftA BinOp.shl IntKind.i32 s8 6 = some (CV.i IntKind.i32 r8) ∧
                      ∃ r9,
                        intBin BinOp.or IntKind.i32 r8 x3 = some (CV.i IntKind.i32 r9) ∧
                          ∃ r10,
                            r10 = IntKind.i64.wrap (s10 + 1) ∧
                              ∀ (fr11 : T CV),
                                Fr fr11
                                    [(0, s0), (1, CV.i IntKind.i64 s1), (6, CV.i IntKind.i32 s6), (7, CV.i IntKind.i64 s7), (8, CV.i IntKind.i32 r9), (9, CV.i IntKind.i32 s9),
                                      (10, CV.i IntKind.i64 r10)] →
                                  K Ex.normal (St.mk fr11 A2)))
      (∀ (fr13 : T CV), Fr fr13 [(6, CV.i IntKind.i32 s6), (7, CV.i IntKind.i64 s7), (8, CV.i IntKind.i32 s8), (9, CV.i IntKind.i32 s9)] → K (Ex.exit 0) (St.mk fr13 A))) :
    W Tryz.prog w0 (subC [1, 1, 1, 1, 1, 1, 1, 1, 1, 0, 1, 0, 0] (codeOf Tryz.prog 29)) 99 ⟨fr, A⟩ K :=
  W.of fit (stops := []) (fun e => match e with | .normal => [0, 1, 6, 7, 8, 9, 10] | .exit 0 => [6, 7, 8, 9] | .ret => [4, 5] | _ => []) hfr (Eq.mp (by kernel_rfl) h)
theorem v55 {w0 : World} {fr : T CV} {s0 : CV} {s1 : Int} {A : AW} {Q : CV → AW → Prop} (hfr : Fr fr [(0, s0), (1, .i .i64 s1)])
    (h : ∃ m0,
      builtinV Tryz.prog Builtin.len [22] [s0] = some (CV.i IntKind.i64 (Int.ofNat m0)) ∧
        F Tryz.prog w0 56 [s0] A fun v1 A2 =>
          ∃ v3,
            v1 = v3 ∧
              ∀ (fr4 : T CV),
                Fr fr4 [(1, CV.i IntKind.i64 (min (max s1 0) (Int.ofNat m0))), (6, CV.i IntKind.i64 1), (7, CV.i IntKind.i64 0), (8, v3), (9, CV.i IntKind.i64 0)] →
                  W Tryz.prog w0 (subC [1, 1, 1, 1, 0, 1] (codeOf Tryz.prog 55)) 42 (St.mk fr4 A2)
                    (onNormal (fun st => W Tryz.prog w0 (subC [1, 1, 1, 1, 1] (codeOf Tryz.prog 55)) 42 st (endF Tryz.prog (resOf Tryz.prog 55) Q)) (endF Tryz.prog (resOf Tryz.prog 55) Q))) :
    WF Tryz.prog w0 (resOf Tryz.prog 55) (subC [] (codeOf Tryz.prog 55)) 42 fr A Q :=
  WF.of fit (stops := [(1, [1, 6, 7, 8, 9]), (24, [6, 7])]) hfr (Eq.mp (by kernel_rfl) h)
theorem v55_11111 {w0 : World} {fr : T CV} {s6 : Int} {s7 : Int} {A : AW} {Q : CV → AW → Prop} (hfr : Fr fr [(6, .i .i64 s6), (7, .i .i64 s7)])
    (h : Q (CV.t [CV.i IntKind.i64 s6, CV.i IntKind.i64 s7]) A) :
    WF Tryz.prog w0 (resOf Tryz.prog 55) (subC [1, 1, 1, 1, 1] (codeOf Tryz.prog 55)) 42 fr A Q :=
  WF.of fit (stops := [(1, [1, 6, 7, 8, 9])]) hfr (Eq.mp (by kernel_rfl) h)
theorem v55_11110100 {w0 : World} {fr : T CV} {s1 : Int} {s6 : Int} {s7 : Int} {s8 : CV} {s9 : Int} {A : AW} {K : Ex → St → Prop} (hfr : Fr fr [(1, .i .i64 s1), (6, .i .i64 s6), (7, .i .i64 s7), (8, s8), (9, .i .i64 s9)])
    (h : ∃ m0,
      builtinV Tryz.prog Builtin.len [116] [s8] = some (CV.i IntKind.i64 (Int.ofNat m0)) ∧
        vcIf (decide (s9 < Int.ofNat m0))
          (∃ b1 o2,
            indexAddrA Tryz.prog A 116 s8 (CV.i IntKind.i64 s9) = some (CV.p b1 o2) ∧
              ∃ x3,
                loadA Tryz.prog A 3 b1 (o2 + 0) = some (CV.i IntKind.i64 x3) ∧
                  vcIf (decide (s1 ≤ x3)) (∀ (fr4 : T CV), Fr fr4 [(6, CV.i IntKind.i64 s6), (7, CV.i IntKind.i64 s7)] → K (Ex.exit 0) (St.mk fr4 A))
                    (∃ r6,
                      r6 = IntKind.i64.wrap (s7 + 1) ∧
                        ∃ b7 o8,
                          indexAddrA Tryz.prog A 116 s8 (CV.i IntKind.i64 s9) = some (CV.p b7 o8) ∧
                            ∃ x9,
                              loadA Tryz.prog A 21 b7 (o8 + 1) = some (CV.i IntKind.i32 x9) ∧
                                vcIf (decide (x9 = 10))
                                  (∃ r10,
                                    r10 = IntKind.i64.wrap (s6 + 1) ∧
                                      ∃ r11,
                                        r11 = IntKind.i64.wrap (s9 + 1) ∧
                                          ∀ (fr12 : T CV),
                                            Fr fr12 [(1, CV.i IntKind.i64 s1), (6, CV.i IntKind.i64 r10), (7, CV.i IntKind.i64 0), (8, s8), (9, CV.i IntKind.i64 r11)] → K Ex.normal (St.mk fr12 A))
                                  (∃ r14,
                                    r14 = IntKind.i64.wrap (s9 + 1) ∧
                                      ∀ (fr15 : T CV),
                                        Fr fr15 [(1, CV.i IntKind.i64 s1), (6, CV.i IntKind.i64 s6), (7, CV.i IntKind.i64 r6), (8, s8), (9, CV.i IntKind.i64 r14)] → K Ex.normal (St.mk fr15 A))))
          (∀ (fr17 : T CV), Fr fr17 [(6, CV.i IntKind.i64 s6), (7, CV.i IntKind.i64 s7)] → K (Ex.exit 0) (St.mk fr17 A))) :
    W Tryz.prog w0 (subC [1, 1, 1, 1, 0, 1, 0, 0] (codeOf Tryz.prog 55)) 42 ⟨fr, A⟩ K :=
  W.of fit (stops := []) (fun e => match e with | .normal => [1, 6, 7, 8, 9] | .exit 0 => [6, 7] | .ret => [4, 5] | _ => []) hfr (Eq.mp (by kernel_rfl) h)
theorem v56 {w0 : World} {fr : T CV} {s0 : CV} {A : AW} {Q : CV → AW → Prop} (hfr : Fr fr [(0, s0)])
    (h : ∀ (fr0 : T CV), Fr fr0 [(0, s0), (3, CV.ns), (4, CV.i IntKind.i64 0)] → WF Tryz.prog w0 (resOf Tryz.prog 56) (subC [1, 1, 1] (codeOf Tryz.prog 56)) 28 fr0 A Q) :
    WF Tryz.prog w0 (resOf Tryz.prog 56) (subC [] (codeOf Tryz.prog 56)) 28 fr A Q :=
  WF.of fit (stops := [(1, [0, 3, 4]), (1, [0, 3, 4])]) hfr (Eq.mp (by kernel_rfl) h)
theorem v56_1111 {w0 : World} {fr : T CV} {s3 : CV} {A : AW} {Q : CV → AW → Prop} (hfr : Fr fr [(3, s3)])
    (h : Q s3 A) :
    WF Tryz.prog w0 (resOf Tryz.prog 56) (subC [1, 1, 1, 1] (codeOf Tryz.prog 56)) 28 fr A Q :=
  WF.of fit (stops := [(1, [0, 3, 4]), (1, [0, 3, 4])]) hfr (Eq.mp (by kernel_rfl) h)
theorem v56_111000 {w0 : World} {fr : T CV} {s0 : CV} {s3 : CV} {s4 : Int} {A : AW} {K : Ex → St → Prop} (hfr : Fr fr [(0, s0), (3, s3), (4, .i .i64 s4)])
    (h : ∃ m0,
      builtinV Tryz.prog Builtin.len [22] [s0] = some (CV.i IntKind.i64 (Int.ofNat m0)) ∧
        vcIf (decide (s4 < Int.ofNat m0))
          (F Tryz.prog w0 29 [s0, CV.i IntKind.i64 s4] A fun v1 A2 =>
            ∃ x3 x4,
              v1 = CV.t [CV.i IntKind.i32 x3, CV.i IntKind.i64 x4] ∧
                ∃ cs5,
                  buildV Tryz.prog 120 [(0, CV.i IntKind.i64 s4), (1, CV.i IntKind.i32 x3), (2, CV.i IntKind.i64 x4)] = some (CV.a cs5) ∧
                    ∃ cs6,
                      fillV (fun i => some (i * 3, 3)) [CV.i IntKind.i64 0, CV.i IntKind.i32 0, CV.i IntKind.i64 0] [(0, CV.a cs5)] = some cs6 ∧
                        ∃ v7 A8,
                          appendA Tryz.prog (A2.push (AObj.mk cs6 120 0 0 false false)) 116 116 s3 (CV.se A2.next 0 1 1) = some (v7, A8) ∧
                            ∃ r9, r9 = IntKind.i64.wrap (s4 + x4) ∧ ∀ (fr10 : T CV), Fr fr10 [(0, s0), (3, v7), (4, CV.i IntKind.i64 r9)] → K Ex.normal (St.mk fr10 A8))
          (∀ (fr12 : T CV), Fr fr12 [(3, s3)] → K (Ex.exit 0) (St.mk fr12 A))) :
    W Tryz.prog w0 (subC [1, 1, 1, 0, 0, 0] (codeOf Tryz.prog 56)) 28 ⟨fr, A⟩ K :=
  W.of fit (stops := []) (fun e => match e with | .normal => [0, 3, 4] | .exit 0 => [3] | .ret => [2] | _ => []) hfr (Eq.mp (by kernel_rfl) h)
theorem v57 {w0 : World} {fr : T CV} {s0 : Int} {s1 : List Nat} {A : AW} {Q : CV → AW → Prop} (hfr : Fr fr [(0, .i .i32 s0), (1, .s s1)])
    (h : vcIf (decide (s0 = 10)) (Q (CV.s [92, 110]) A)
      (vcIf (decide (s0 = 13)) (Q (CV.s [92, 114]) A)
        (vcIf (decide (s0 = 9)) (Q (CV.s [92, 116]) A)
          (vcIf (decide (s0 = 92)) (Q (CV.s [92, 92]) A)
            (∀ (fr0 : T CV),
              Fr fr0 [(0, CV.i IntKind.i32 s0), (1, CV.s s1), (5, CV.i IntKind.i64 0)] →
                W Tryz.prog w0 (subC [1, 1, 1, 1, 1, 0, 1] (codeOf Tryz.prog 57)) 46 (St.mk fr0 A)
                  (onNormal (fun st => W Tryz.prog w0 (subC [1, 1, 1, 1, 1, 1] (codeOf Tryz.prog 57)) 46 st (endF Tryz.prog (resOf Tryz.prog 57) Q)) (endF Tryz.prog (resOf Tryz.prog 57) Q))))))) :
    WF Tryz.prog w0 (resOf Tryz.prog 57) (subC [] (codeOf Tryz.prog 57)) 46 fr A Q :=
  WF.of fit (stops := [(1, [0, 1, 5])]) hfr (Eq.mp (by kernel_rfl) h)
theorem v57_111111 {w0 : World} {fr : T CV} {s0 : Int} {A : AW} {Q : CV → AW → Prop} (hfr : Fr fr [(0, .i .i32 s0)])
    (h : vcIf (decide (s0 < 32))
      (F Tryz.prog w0 89 [CV.i IntKind.i32 s0] A fun v0 A1 =>
        ∃ l2, v0 = CV.s l2 ∧ 3 + l2.length < 1099511627776 ∧ ([92, 117, 123] ++ l2).length + 1 < 1099511627776 ∧ Q (CV.s ([92, 117, 123] ++ l2 ++ [125])) A1)
      (vcIf (decide (s0 = 127))
        (F Tryz.prog w0 89 [CV.i IntKind.i32 s0] A fun v3 A4 =>
          ∃ l5, v3 = CV.s l5 ∧ 3 + l5.length < 1099511627776 ∧ ([92, 117, 123] ++ l5).length + 1 < 1099511627776 ∧ Q (CV.s ([92, 117, 123] ++ l5 ++ [125])) A4)
        (vcIf (decide (1114112 ≤ s0)) (Q (CV.s [92, 117, 123, 102, 102, 102, 100, 125]) A) (F Tryz.prog w0 90 [CV.i IntKind.i32 s0] A fun v6 A7 => ∃ l8, v6 = CV.s l8 ∧ Q (CV.s l8) A7)))) :
    WF Tryz.prog w0 (resOf Tryz.prog 57) (subC [1, 1, 1, 1, 1, 1] (codeOf Tryz.prog 57)) 46 fr A Q :=
  WF.of fit (stops := [(1, [0, 1, 5])]) hfr (Eq.mp (by kernel_rfl) h)
theorem v57_111110100 {w0 : World} {fr : T CV} {s0 : Int} {s1 : List Nat} {s5 : Int} {A : AW} {K : Ex → St → Prop} (hfr : Fr fr [(0, .i .i32 s0), (1, .s s1), (5, .i .i64 s5)])
    (h : ∃ m0,
      builtinV Tryz.prog Builtin.len [9] [CV.s s1] = some (CV.i IntKind.i64 (Int.ofNat m0)) ∧
        vcIf (decide (s5 < Int.ofNat m0))
          (∃ x1,
            indexA Tryz.prog 9 (CV.s s1) (CV.i IntKind.i64 s5) = some (CV.i IntKind.u8 x1) ∧
              ∃ r2,
                r2 = IntKind.i32.wrap x1 ∧
                  vcIf (decide (s0 = r2))
                    (∃ r3,
                      r3 = IntKind.i64.wrap (s5 + 1) ∧
                        ∃ l4,
                          sliceV Tryz.prog A 9 (CV.s s1) (some (CV.i IntKind.i64 s5)) (some (CV.i IntKind.i64 r3)) none = some (CV.s l4) ∧
                            1 + l4.length < 1099511627776 ∧ ∀ (fr5 : T CV), Fr fr5 [(4, CV.s ([92] ++ l4))] → K Ex.ret (St.mk fr5 A))
                    (∃ r7, r7 = IntKind.i64.wrap (s5 + 1) ∧ ∀ (fr8 : T CV), Fr fr8 [(0, CV.i IntKind.i32 s0), (1, CV.s s1), (5, CV.i IntKind.i64 r7)] → K Ex.normal (St.mk fr8 A)))
          (∀ (fr10 : T CV), Fr fr10 [(0, CV.i IntKind.i32 s0)] → K (Ex.exit 0) (St.mk fr10 A))) :
    W Tryz.prog w0 (subC [1, 1, 1, 1, 1, 0, 1, 0, 0] (codeOf Tryz.prog 57)) 46 ⟨fr, A⟩ K :=
  W.of fit (stops := []) (fun e => match e with | .normal => [0, 1, 5] | .exit 0 => [0] | .ret => [4] | _ => []) hfr (Eq.mp (by kernel_rfl) h)
theorem v58 {w0 : World} {fr : T CV} {s0 : Int} {A : AW} {Q : CV → AW → Prop} (hfr : Fr fr [(0, .i .u64 s0)])
    (h : ∀ (fr0 : T CV), Fr fr0 [(0, CV.i IntKind.u64 s0), (3, CV.s [])] → WF Tryz.prog w0 (resOf Tryz.prog 58) (subC [1, 1] (codeOf Tryz.prog 58)) 23 fr0 A Q) :
    WF Tryz.prog w0 (resOf Tryz.prog 58) (subC [] (codeOf Tryz.prog 58)) 23 fr A Q :=
  WF.of fit (stops := [(1, [0, 3]), (1, [0, 3])]) hfr (Eq.mp (by kernel_rfl) h)
theorem v58_111 {w0 : World} {fr : T CV} {s0 : Int} {s3 : List Nat} {A : AW} {Q : CV → AW → Prop} (hfr : Fr fr [(0, .i .u64 s0), (3, .s s3)])
    (h : ∃ r0,
      r0 = IntKind.u64.wrap (48 + s0) ∧
        ∃ r1,
          r1 = IntKind.u8.wrap r0 ∧
            ∃ cs2,
              fillV (fun i => some (i * 1, 1)) [CV.i IntKind.u8 0] [(0, CV.i IntKind.u8 r1)] = some cs2 ∧
                ∃ l3,
                  convA Tryz.prog (A.push (AObj.mk cs2 5 0 0 false false)) 22 9 (CV.se A.next 0 1 1) = some (CV.s l3) ∧
                    l3.length + s3.length < 1099511627776 ∧ Q (CV.s (l3 ++ s3)) (A.push (AObj.mk cs2 5 0 0 false false))) :
    WF Tryz.prog w0 (resOf Tryz.prog 58) (subC [1, 1, 1] (codeOf Tryz.prog 58)) 23 fr A Q :=
  WF.of fit (stops := [(1, [0, 3]), (1, [0, 3])]) hfr (Eq.mp (by kernel_rfl) h)
theorem v58_11000 {w0 : World} {fr : T CV} {s0 : Int} {s3 : List Nat} {A : AW} {K : Ex → St → Prop} (hfr : Fr fr [(0, .i .u64 s0), (3, .s s3)])
    (h : vcIf (decide (9 < s0))
      (∃ r0,
        r0 = s0.tmod 10 ∧
          ∃ r1,
            r1 = IntKind.u64.wrap (48 + r0) ∧
              ∃ r2,
                r2 = IntKind.u8.wrap r1 ∧
                  ∃ cs3,
                    fillV (fun i => some (i * 1, 1)) [CV.i IntKind.u8 0] [(0, CV.i IntKind.u8 r2)] = some cs3 ∧
                      ∃ l4,
                        convA Tryz.prog (A.push (AObj.mk cs3 5 0 0 false false)) 22 9 (CV.se A.next 0 1 1) = some (CV.s l4) ∧
                          l4.length + s3.length < 1099511627776 ∧
                            ∃ r5,
                              r5 = IntKind.u64.wrap (s0.tdiv 10) ∧
                                ∀ (fr6 : T CV), Fr fr6 [(0, CV.i IntKind.u64 r5), (3, CV.s (l4 ++ s3))] → K Ex.normal (St.mk fr6 (A.push (AObj.mk cs3 5 0 0 false false))))
      (∀ (fr8 : T CV), Fr fr8 [(0, CV.i IntKind.u64 s0), (3, CV.s s3)] → K (Ex.exit 0) (St.mk fr8 A))) :
    W Tryz.prog w0 (subC [1, 1, 0, 0, 0] (codeOf Tryz.prog 58)) 23 ⟨fr, A⟩ K :=
  W.of fit (stops := []) (fun e => match e with | .normal => [0, 3] | .exit 0 => [0, 3] | .ret => [2] | _ => []) hfr (Eq.mp (by kernel_rfl) h)
theorem v61 {w0 : World} {fr : T CV} {s0 : CV} {s1 : Int} {A : AW} {Q : CV → AW → Prop} (hfr : Fr fr [(0, s0), (1, .i .i64 s1)])
    (h : ∃ m0,
      builtinV Tryz.prog Builtin.len [22] [s0] = some (CV.i IntKind.i64 (Int.ofNat m0)) ∧
        vcIf (decide (Int.ofNat m0 ≤ s1)) (Q (CV.t [CV.i IntKind.i32 0, CV.b false]) A)
          (∃ b1 o2,
            indexAddrA Tryz.prog A 22 s0 (CV.i IntKind.i64 s1) = some (CV.p b1 o2) ∧
              ∃ x3,
                loadA Tryz.prog A 5 b1 o2 = some (CV.i IntKind.u8 x3) ∧
                  ∃ r4,
                    intBin BinOp.and IntKind.u8 x3 192 = some (CV.i IntKind.u8 r4) ∧
                      vcIf (decide (r4 ≠ 128)) (Q (CV.t [CV.i IntKind.i32 0, CV.b false]) A)
                        (∃ b5 o6,
                          indexAddrA Tryz.prog A 22 s0 (CV.i IntKind.i64 s1) = some (CV.p b5 o6) ∧
                            ∃ x7,
                              loadA Tryz.prog A 5 b5 o6 = some (CV.i IntKind.u8 x7) ∧
                                ∃ r8, intBin BinOp.and IntKind.u8 x7 63 = some (CV.i IntKind.u8 r8) ∧ ∃ r9, r9 = IntKind.i32.wrap r8 ∧ Q (CV.t [CV.i IntKind.i32 r9, CV.b true]) A))) :
    WF Tryz.prog w0 (resOf Tryz.prog 61) (subC [] (codeOf Tryz.prog 61)) 24 fr A Q :=
  WF.of fit (stops := []) hfr (Eq.mp (by kernel_rfl) h)
theorem v89 {w0 : World} {fr : T CV} {s0 : Int} {A : AW} {Q : CV → AW → Prop} (hfr : Fr fr [(0, .i .i32 s0)])
    (h : ∀ (fr0 : T CV), Fr fr0 [(0, CV.i IntKind.i32 s0), (3, CV.s [])] → WF Tryz.prog w0 (resOf Tryz.prog 89) (subC [1, 1] (codeOf Tryz.prog 89)) 22 fr0 A Q) :
    WF Tryz.prog w0 (resOf Tryz.prog 89) (subC [] (codeOf Tryz.prog 89)) 22 fr A Q :=
  WF.of fit (stops := [(1, [0, 3]), (1, [0, 3])]) hfr (Eq.mp (by kernel_rfl) h)
theorem v89_111 {w0 : World} {fr : T CV} {s0 : Int} {s3 : List Nat} {A : AW} {Q : CV → AW → Prop} (hfr : Fr fr [(0, .i .i32 s0), (3, .s s3)])
    (h : ∃ r0,
      r0 = IntKind.i32.wrap (s0 + 1) ∧
        ∃ l1,
          sliceV Tryz.prog A 9 (CV.s [48, 49, 50, 51, 52, 53, 54, 55, 56, 57, 97, 98, 99, 100, 101, 102]) (some (CV.i IntKind.i32 s0)) (some (CV.i IntKind.i32 r0)) none = some (CV.s l1) ∧
            l1.length + s3.length < 1099511627776 ∧ Q (CV.s (l1 ++ s3)) A) :
    WF Tryz.prog w0 (resOf Tryz.prog 89) (subC [1, 1, 1] (codeOf Tryz.prog 89)) 22 fr A Q :=
  WF.of fit (stops := [(1, [0, 3]), (1, [0, 3])]) hfr (Eq.mp (by kernel_rfl) h)
theorem v89_11000 {w0 : World} {fr : T CV} {s0 : Int} {s3 : List Nat} {A : AW} {K : Ex → St → Prop} (hfr : Fr fr [(0, .i .i32 s0), (3, .s s3)])
    (h : vcIf (decide (15 < s0))
      (∃ r0,
        r0 = s0.tmod 16 ∧
          ∃ r1,
            r1 = s0.tmod 16 ∧
              ∃ r2,
                r2 = IntKind.i32.wrap (r1 + 1) ∧
                  ∃ l3,
                    sliceV Tryz.prog A 9 (CV.s [48, 49, 50, 51, 52, 53, 54, 55, 56, 57, 97, 98, 99, 100, 101, 102]) (some (CV.i IntKind.i32 r0)) (some (CV.i IntKind.i32 r2)) none = some (CV.s l3) ∧
                      l3.length + s3.length < 1099511627776 ∧
                        ∃ r4, r4 = IntKind.i32.wrap (s0.tdiv 16) ∧ ∀ (fr5 : T CV), Fr fr5 [(0, CV.i IntKind.i32 r4), (3, CV.s (l3 ++ s3))] → K Ex.normal (St.mk fr5 A))
      (∀ (fr7 : T CV), Fr fr7 [(0, CV.i IntKind.i32 s0), (3, CV.s s3)] → K (Ex.exit 0) (St.mk fr7 A))) :
    W Tryz.prog w0 (subC [1, 1, 0, 0, 0] (codeOf Tryz.prog 89)) 22 ⟨fr, A⟩ K :=
  W.of fit (stops := []) (fun e => match e with | .normal => [0, 3] | .exit 0 => [0, 3] | .ret => [2] | _ => []) hfr (Eq.mp (by kernel_rfl) h)
theorem v90 {w0 : World} {fr : T CV} {s0 : Int} {A : AW} {Q : CV → AW → Prop} (hfr : Fr fr [(0, .i .i32 s0)])
    (h : ∃ cs0,
      fillV (fun i => some (i * 1, 1)) [CV.i IntKind.i32 0] [(0, CV.i IntKind.i32 s0)] = some cs0 ∧
        ∃ l1, convA Tryz.prog (A.push (AObj.mk cs0 21 0 0 false false)) 212 9 (CV.se A.next 0 1 1) = some (CV.s l1) ∧ Q (CV.s l1) (A.push (AObj.mk cs0 21 0 0 false false))) :
    WF Tryz.prog w0 (resOf Tryz.prog 90) (subC [] (codeOf Tryz.prog 90)) 6 fr A Q :=
  WF.of fit (stops := []) hfr (Eq.mp (by kernel_rfl) h)
theorem v3 {w0 : World} {fr : T CV} {s0 : CV} {s1 : CV} {A : AW} {Q : CV → AW → Prop} (hfr : Fr fr [(0, s0), (1, s1)])
    (h : ∃ m0,
      builtinV Tryz.prog Builtin.len [22] [s0] = some (CV.i IntKind.i64 (Int.ofNat m0)) ∧
        vcIf (decide (300 < Int.ofNat m0)) (F Tryz.prog w0 5 [] A fun v1 A2 => ∃ x3, v1 = CV.b x3 ∧ Q (CV.b x3) A2)
          (∃ m4,
            builtinV Tryz.prog Builtin.len [23] [s1] = some (CV.i IntKind.i64 (Int.ofNat m4)) ∧
              vcIf (decide (60 < Int.ofNat m4)) (F Tryz.prog w0 5 [] A fun v5 A6 => ∃ x7, v5 = CV.b x7 ∧ Q (CV.b x7) A6)
                (F Tryz.prog w0 6 [s0, s1] A fun v8 A9 =>
                  ∃ l10,
                    v8 = CV.s l10 ∧
                      F Tryz.prog w0 7 [s0, s1] A9 fun v11 A12 =>
                        ∃ l13, v11 = CV.s l13 ∧ vcIf (decide (l10 = l13)) (F Tryz.prog w0 5 [] A12 fun v14 A15 => ∃ x16, v14 = CV.b x16 ∧ Q (CV.b x16) A15) (Q (CV.b false) A12)))) :
    WF Tryz.prog w0 (resOf Tryz.prog 3) (subC [] (codeOf Tryz.prog 3)) 24 fr A Q :=
  WF.of fit (stops := []) hfr (Eq.mp (by kernel_rfl) h)
end Go.Proofs.R31
