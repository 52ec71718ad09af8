/-
  THE LIBRARY's TABLES FROM A ROW's LIST. Conditions: the row's list.
-/
import Derived.Test.YtcfcagpcaclpkaaGreatDoorR31I
import Derived.Test.YtcfcagpcaclpkaaGreatDoorRows
import Derived.Lib.LaidTab
import Derived.OpenShut
import Derived.ProofKit
set_option maxRecDepth 100000
namespace Go.Proofs.R31
open Go Go.Ce Go.RowKit Go.ChangeShapes
/-- One variable of a list, and the list behind it. -/
theorem laid_next {P : Program} {w : World} {n : String} {d : DataW Unit} {r : List (String × DataW Unit)} {ps : List MemPlace} (h : DataW.LaidVars P w ((n, d) :: r) ps) :
    (∃ g t cs fuel p, P.globalNamed n = some g ∧ (P.globals[g]?).map (·.type) = some t ∧ w.var? P n = some cs ∧ DataW.trod (fun _ => ()) P w 0 (fun _ => true) false fuel t cs.toList = some (d, p)) ∧ ∃ q, DataW.LaidVars P w r q := by
  obtain ⟨g, t, cs, fuel, p, q, h1, h2, h3, h4, h5, _⟩ := h
  exact ⟨⟨g, t, cs, fuel, p, h1, h2, h3, h4⟩, q, h5⟩
/-- A table of numbers. -/
theorem tab_of {w : World} {n : String} {d : DataW Unit} {k : IntKind} {zs : List Int} {g t e m : Nat} (hd : d = Lib.tabData k zs) (hg : Tryz.prog.globalNamed n = some g) (hty : (Tryz.prog.globals[g]?).map (·.type) = some t) (ht : Tryz.prog.underlying t = some (.array m e)) (he : Tryz.prog.underlying e = some (.int k)) (hce : Tryz.prog.cellsOf e = 1) (hct : Tryz.prog.cellsOf t = m)
    (h : ∃ g t cs fuel p, Tryz.prog.globalNamed n = some g ∧ (Tryz.prog.globals[g]?).map (·.type) = some t ∧ w.var? Tryz.prog n = some cs ∧ DataW.trod (fun _ => ()) Tryz.prog w 0 (fun _ => true) false fuel t cs.toList = some (d, p)) : Lib.TabIs Tryz.prog w n k zs := by
  obtain ⟨g', t', cs, fuel, p, hg', ht', hvar, h4⟩ := h
  subst hd
  obtain rfl := Option.some.inj (hg.symm.trans hg')
  obtain rfl := Option.some.inj (hty.symm.trans ht')
  unfold Lib.TabIs
  rw [hvar, ← Lib.cells_of_tab ht he hce hct h4]
theorem g0 : Tryz.prog.globalNamed "unicode/utf8.first" = some 0 := by kernel_rfl
theorem g1 : Tryz.prog.globalNamed "unicode/utf8.acceptRanges" = some 1 := by kernel_rfl
theorem g2 : Tryz.prog.globalNamed "internal/strconv.uint64pow10" = some 2 := by kernel_rfl
theorem g5 : Tryz.prog.globalNamed "math/bits.deBruijn64tab" = some 5 := by kernel_rfl
theorem first_all : (List.range 256).map Lib.firstT = Pinned.utf8FirstZ := by decide +kernel
theorem first_get (c : Nat) (hc : c < 256) : Pinned.utf8FirstZ[c]? = some (Lib.firstT c) := by
  rw [← first_all, List.getElem?_map, List.getElem?_range hc]; rfl
def pairD (x : Nat × Nat) : DataW Unit := .agg [.lit (.int .u8 (x.1 : Int)), .lit (.int .u8 (x.2 : Int))]
def accD : List (Nat × Nat) := (List.range 16).map fun i => (Lib.accLo i, Lib.accHi i)
theorem u244 : ∃ f0 f1 : Field, Tryz.prog.underlying 244 = some (.struct #[f0, f1]) ∧ f0.type = 5 ∧ f1.type = 5 ∧ f0.offset = 0 ∧ f1.offset = 1 := ⟨_, _, Tryz.underlying244, rfl, rfl, rfl, rfl⟩
theorem c5 : Tryz.prog.cellsOf 5 = 1 := by kernel_rfl
theorem c244 : Tryz.prog.cellsOf 244 = 2 := by kernel_rfl
/-- The pairs of the decoder. -/
theorem acc_cells {w : World} {fuel : Nat} {cs : List Value} {p : List MemPlace} (h : DataW.trod (fun _ => ()) Tryz.prog w 0 (fun _ => true) false fuel 245 cs = some (.agg (accD.map pairD), p)) :
    ∀ i, i < 16 → cs[2 * i]? = some (.int .u8 (Lib.accLo i)) ∧ cs[2 * i + 1]? = some (.int .u8 (Lib.accHi i)) := by
  obtain ⟨xs, m, rfl, hx, hl, hn, hi⟩ := DataW.trod_array Tryz.underlying245 h
  obtain ⟨f0, f1, hu, t0, t1, o0, o1⟩ := u244
  intro i h16
  have hd : accD.map pairD = xs.map (·.1) := by
    have := congrArg Prod.fst hx
    simpa using this
  have h1 := hi i h16
  rw [c244] at h1
  have hxi : ∃ y, xs[i]? = some y ∧ y.1 = pairD (Lib.accLo i, Lib.accHi i) := by
    have h2 : (xs.map (·.1))[i]? = some (pairD (Lib.accLo i, Lib.accHi i)) := by
      rw [← hd, List.getElem?_map, accD, List.getElem?_map, List.getElem?_range h16]; rfl
    rw [List.getElem?_map] at h2
    cases hy : xs[i]? with
    | none => rw [hy] at h2; cases h2
    | some y => rw [hy] at h2; exact ⟨y, rfl, by simpa using h2⟩
  obtain ⟨y, hy, hy1⟩ := hxi
  rw [hy] at h1
  obtain ⟨ys, n, rfl, hyx, hl2, hn2, hf⟩ := DataW.trod_struct hu h1
  have k0 := hf 0 f0 rfl
  have k1 := hf 1 f1 rfl
  rw [t0, o0, c5] at k0
  rw [t1, o1, c5] at k1
  have hys : ys.length = 2 := hn2
  obtain ⟨a, b, rfl⟩ : ∃ a b, ys = [a, b] := by
    match ys, hys with
    | [a, b], _ => exact ⟨a, b, rfl⟩
  obtain ⟨z0, e0, rfl, _⟩ := DataW.trod_int u5 k0
  obtain ⟨z1, e1, rfl, _⟩ := DataW.trod_int u5 k1
  have hh := congrArg Prod.fst hyx
  rw [hy1] at hh
  simp only [pairD, List.map_cons, List.map_nil, DataW.agg.injEq, List.cons.injEq, DataW.lit.injEq, Lit.int.injEq, true_and, and_true] at hh
  obtain ⟨rfl, rfl⟩ := hh
  constructor
  · have := congrArg (·[0]?) e0
    simpa [List.getElem?_take, List.getElem?_drop, Nat.mul_comm] using this
  · have := congrArg (·[0]?) e1
    simpa [List.getElem?_take, List.getElem?_drop, Nat.mul_comm] using this
/-- ████ THE TABLES. -/
theorem tabs_of {w : World} (h : laidMetH Tryz.prog YtcfcagpcaclpkaaGreatDoor.Rows.reportSlipsRow.laid w) : Tabs w := by
  have h' : laidMet Tryz.prog YtcfcagpcaclpkaaGreatDoor.Rows.reportSlipsRow.laid w := h
  obtain ⟨ps, hl, _, _⟩ := h'
  obtain ⟨_, q1, hl⟩ := laid_next hl
  obtain ⟨h5, q2, hl⟩ := laid_next hl
  obtain ⟨h2, q3, hl⟩ := laid_next hl
  obtain ⟨h1, q4, hl⟩ := laid_next hl
  obtain ⟨h0, q5, hl⟩ := laid_next hl
  have t5 : Lib.TabIs Tryz.prog w "math/bits.deBruijn64tab" .u8 (Lib.deBruijn64tab.map fun (n : Nat) => (n : Int)) := tab_of (by kernel_rfl) g5 (by kernel_rfl) Tryz.underlying277 u5 c5 (by kernel_rfl) h5
  have t2 : Lib.TabIs Tryz.prog w "internal/strconv.uint64pow10" .u64 Lib.pow10Tab := tab_of (by kernel_rfl) g2 (by kernel_rfl) Tryz.underlying260 Tryz.underlying122 (by kernel_rfl) (by kernel_rfl) h2
  have t0 : Lib.TabIs Tryz.prog w "unicode/utf8.first" .u8 (Pinned.utf8FirstZ.map fun (n : Nat) => (n : Int)) := tab_of (by kernel_rfl) g0 (by kernel_rfl) Tryz.underlying242 u5 c5 (by kernel_rfl) h0
  refine ⟨⟨fun c hc => ?_, fun i hi => ?_⟩, t2, fun j hj => ?_⟩
  · have := World.var?_cell g0 t0 c
    rw [this]
    simp [first_get c hc]
  · obtain ⟨g', t', cs, fuel, p, hg', ht', hvar, h4⟩ := h1
    obtain rfl := Option.some.inj (g1.symm.trans hg')
    obtain rfl := Option.some.inj ((show (Tryz.prog.globals[1]?).map (·.type) = some 245 by kernel_rfl).symm.trans ht')
    have hc := World.var?_cell g1 hvar
    have := acc_cells (fuel := fuel) (cs := cs.toList) (p := p) (by rw [h4]; exact congrArg some (Prod.ext (by kernel_rfl) rfl)) i hi
    constructor
    · rw [hc]; simpa using this.1
    · rw [hc]; simpa using this.2
  · have := World.var?_cell g5 t5 j
    rw [this]
    simp [List.getElem?_eq_getElem hj]
end Go.Proofs.R31
