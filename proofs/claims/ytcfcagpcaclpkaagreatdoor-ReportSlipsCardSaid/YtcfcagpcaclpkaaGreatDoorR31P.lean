/-
  ████ ReportSlips: the law. Conditions: none.
-/
import Derived.Test.YtcfcagpcaclpkaaGreatDoorR31M
import Derived.Test.YtcfcagpcaclpkaaGreatDoorR31N
import Derived.Test.YtcfcagpcaclpkaaGreatDoorR31W
import Derived.Test.YtcfcagpcaclpkaaGreatDoorCfJ
set_option maxRecDepth 100000
namespace Go.Proofs.R31
open Go Go.Ce Go.RowKit Go.ChangeShapes
section
variable {w0 : World} {A : AW}
/-- wakes -/
theorem wakes_run : F Tryz.prog w0 5 [] A (fun r A' => A' = A ∧ r = .b true) := by
  obtain ⟨A', he⟩ := saysTrue_ok wakes_ev
  exact ⟨_, _, FD.of_closed (fn := Tryz.f5) Tryz.func5 (by kernel_rfl) rfl rfl fun w hw => F.closed fit 5000 he, rfl, rfl⟩
/-- ████ pollardlaw31.ReportSlips comes out true. -/
theorem law_run (T : Tabs w0) {v u : CV} {l : List Nat} {ss : List SlipT} (hb : Bs A v l) (hs : Ss A u ss) (hA : A.Fresh) :
    F Tryz.prog w0 3 [v, u] A (fun r A' => A' = A ∧ r = .b true) := by
  have wk : F Tryz.prog w0 5 [] A (fun v1 A2 => ∃ x3, v1 = CV.b x3 ∧ (A2 = A ∧ CV.b x3 = .b true)) := by
    refine wakes_run.mono ?_
    rintro r A' ⟨rfl, rfl⟩
    exact ⟨true, rfl, rfl, rfl⟩
  refine F.code 24 (by kernel_rfl) (v3 ⟨rfl, rfl, trivial⟩ ⟨_, hb.sl.len_ok u22, vcIf.decide (fun _ => wk) fun h1 => ⟨_, hs.sl.len_ok u23, vcIf.decide (fun _ => wk) fun h2 => ?_⟩⟩)
  simp only [Int.ofNat_eq_natCast] at h1 h2
  refine (slips_run T hb hs hA (by omega) (by omega)).mono ?_
  rintro r A' ⟨rfl, rfl⟩
  refine ⟨_, rfl, (refSlips_run hb hs hA (by omega) (by omega)).mono ?_⟩
  rintro r A' ⟨rfl, rfl⟩
  exact ⟨_, rfl, vcIf.decide (fun _ => wk) fun h => absurd rfl h⟩
end
/-! ### Arguments -/
theorem u36 : Tryz.prog.underlying 36 = some (.int .i64) := by kernel_rfl
theorem u3 : Tryz.prog.underlying 3 = some (.int .i64) := by kernel_rfl
theorem c3 : Tryz.prog.cellsOf 3 = 1 := by kernel_rfl
theorem c36 : Tryz.prog.cellsOf 36 = 1 := by kernel_rfl
section
variable {H : Type} {enc : TypeId × Value → H} {W : World}
theorem byte_read {fuel : Nat} {cs : List Value} {x : DataW H × List MemPlace} (h : DataW.trod enc Tryz.prog W 0 (fun _ => true) true fuel 5 cs = some x) : ∃ m : Nat, m < 256 ∧ [byteC m].length = 1 ∧ ∀ ρ, concL ρ [byteC m] = some cs := by
  obtain ⟨n, rfl, _, hw⟩ := DataW.trod_int u5 h
  simp only [Lit.wf, Bool.and_eq_true, decide_eq_true_eq] at hw
  have h0 : 0 ≤ n := hw.1
  have h1 : n ≤ 255 := hw.2
  refine ⟨n.toNat, by omega, rfl, fun ρ => ?_⟩
  simp only [concL, byteC, conc]
  rw [show Int.ofNat n.toNat = n by simp; omega]
theorem slip_read {fuel : Nat} {cs : List Value} {x : DataW H × List MemPlace} (h : DataW.trod enc Tryz.prog W 0 (fun _ => true) true fuel 57 cs = some x) : ∃ s : SlipT, SlipOk s ∧ (slipC s).length = 3 ∧ ∀ ρ, concL ρ (slipC s) = some cs := by
  obtain ⟨ys, n, rfl, hyx, hl, hn, hf⟩ := DataW.trod_struct Tryz.underlying57 h
  have k0 : DataW.trod enc Tryz.prog W 0 (fun _ => true) true n 36 ((cs.drop 0).take (Tryz.prog.cellsOf 36)) = ys[0]? := hf 0 _ rfl
  have k1 : DataW.trod enc Tryz.prog W 0 (fun _ => true) true n 3 ((cs.drop 1).take (Tryz.prog.cellsOf 3)) = ys[1]? := hf 1 _ rfl
  have k2 : DataW.trod enc Tryz.prog W 0 (fun _ => true) true n 3 ((cs.drop 2).take (Tryz.prog.cellsOf 3)) = ys[2]? := hf 2 _ rfl
  rw [c36] at k0
  rw [c3] at k1 k2
  have hcs : cs.length = 3 := hl
  obtain ⟨a, b, c, rfl⟩ : ∃ a b c, cs = [a, b, c] := by
    match cs, hcs with
    | [a, b, c], _ => exact ⟨a, b, c, rfl⟩
  have hys : ys.length = 3 := hn
  obtain ⟨y0, y1, y2, rfl⟩ : ∃ a b c, ys = [a, b, c] := by
    match ys, hys with
    | [a, b, c], _ => exact ⟨a, b, c, rfl⟩
  obtain ⟨z0, e0, _, w0⟩ := DataW.trod_int u36 k0
  obtain ⟨z1, e1, _, w1⟩ := DataW.trod_int u3 k1
  obtain ⟨z2, e2, _, w2⟩ := DataW.trod_int u3 k2
  simp at e0 e1 e2
  subst e0; subst e1; subst e2
  simp only [Lit.wf, Bool.and_eq_true, decide_eq_true_eq] at w0 w1 w2
  exact ⟨(z0, z1, z2), ⟨w0, w1, w2⟩, rfl, fun ρ => by simp [slipC, concL, conc]⟩
theorem flat_bytes (l : List Nat) : l.flatMap (fun m => [byteC m]) = l.map byteC := by
  induction l with
  | nil => rfl
  | cons a l ih => simp [ih]
set_option maxHeartbeats 1000000 in
/-- ████ FOR EVERY ARGUMENT AND EVERY WORLD THAT HOLDS THE TABLES. -/
theorem contract (base : Nat) (args : Array Value) (ds gs : List (DataW H)) (before : List MemPlace)
    (hval : ∀ (j : Nat) t v, Tryz.f3.params[j]? = some t → args[j]? = some v → Value.okWide Tryz.prog W .any base t v)
    (hW : DataW.Whole enc Tryz.prog Tryz.f3.params.toList YtcfcagpcaclpkaaGreatDoor.Rows.reportSlipsSpec.vars false W args.toList ds gs before) (hL : laidMetH Tryz.prog YtcfcagpcaclpkaaGreatDoor.Rows.reportSlipsRow.laid W) :
    Calls Tryz.prog 3 args W fun e W' => ∃ v, e = .returned v ∧ YtcfcagpcaclpkaaGreatDoor.Rows.reportSlipsSpec.post enc Tryz.prog Tryz.f3 false true false false W args v W' := by
  have T := tabs_of hL
  obtain ⟨p, q, hA, hV, hpq, _, _⟩ := id hW
  rw [Tryz.params3] at hA hval
  obtain ⟨v0, vs0, d0, ds0, p0, q0, hargs, hds, _, h0, r0⟩ := trodAll_cons hA
  obtain ⟨v1, vs1, d1, ds1, p1, q1, rfl, rfl, _, h1, r1⟩ := trodAll_cons r0
  obtain ⟨rfl, rfl, _⟩ := trodAll_nil r1
  subst hds
  obtain rfl : args = #[v0, v1] := by cases args; simp_all
  obtain ⟨rfl, rfl⟩ := trodVars_none hV
  obtain ⟨os0, cv0, l, L0, hl, sl0⟩ := flat_arg (k := 1) u22 c5 (by omega) (hval 0 22 v0 rfl rfl) h0 (fun m => [byteC m]) (fun m => m < 256) (fun n cs x h => byte_read h)
  obtain ⟨os1, cv1, ss, L1, hss, sl1⟩ := flat_arg (k := 3) u23 (by kernel_rfl) (by omega) (hval 1 23 v1 rfl rfl) h1 slipC SlipOk (fun n cs x h => slip_read h)
  have pe0 : ∀ (i : Nat) x, os0[i]? = some x → envL (os0 ++ os1) (0 + i) = some x.2 ∧ (memL (os0 ++ os1)).heap.get (0 + i) = some x.1 := fun i x hx => by
    simpa using part_env (pre := []) (post := os1) i x hx
  have pe1 : ∀ (i : Nat) x, os1[i]? = some x → envL (os0 ++ os1) (os0.length + i) = some x.2 ∧ (memL (os0 ++ os1)).heap.get (os0.length + i) = some x.1 := fun i x hx => by
    simpa using part_env (pre := os0) (post := []) i x hx
  have hwr : WR W (envL (os0 ++ os1)) (memL (os0 ++ os1)) W := laid_wr (fun x hx => by
    rcases List.mem_append.1 hx with hx | hx
    · exact L0.ro x hx
    · exact L1.ro x hx) (fun x hx => by
    rcases List.mem_append.1 hx with hx | hx
    · exact L0.br _ 0 (fun i x hx => (pe0 i x hx).1) x hx
    · exact L1.br _ os0.length (fun i x hx => (pe1 i x hx).1) x hx)
  have hbs : Bs (memL (os0 ++ os1)) (cv0 0) l := ⟨by
    have := sl0 (memL (os0 ++ os1)) 0 (fun i x hx => (pe0 i x hx).2)
    rw [flat_bytes] at this
    exact this, hl⟩
  have hsl : Ss (memL (os0 ++ os1)) (cv1 os0.length) ss := ⟨sl1 (memL (os0 ++ os1)) os0.length (fun i x hx => (pe1 i x hx).2), hss⟩
  obtain ⟨v, A', hFD, _, rfl⟩ := law_run (w0 := W) T hbs hsl (memL_fresh _)
  obtain ⟨_, hC⟩ := hFD (envL (os0 ++ os1)) W [v0, v1] hwr (by simp only [concL, L0.val _ 0 (fun i x hx => (pe0 i x hx).1), L1.val _ os0.length (fun i x hx => (pe1 i x hx).1)])
  refine hC.mono ?_
  rintro e W' ⟨z, ρ', rfl, hw, _, hz⟩
  simp only [conc, Option.some.injEq] at hz
  subst hz
  refine ⟨_, rfl, post_true (rt := 4) (by kernel_rfl) (fun t ht => ?_) rfl (by kernel_rfl) Tryz.underlying4 hW hw.below ⟨rfl, rfl, rfl⟩⟩
  rw [Tryz.params3] at ht
  have : t = 22 ∨ t = 23 := by simpa using ht
  rcases this with rfl | rfl
  · exact ⟨by kernel_rfl, of_decide_eq_true (by kernel_rfl)⟩
  · exact ⟨by kernel_rfl, of_decide_eq_true (by kernel_rfl)⟩
end
end Go.Proofs.R31
