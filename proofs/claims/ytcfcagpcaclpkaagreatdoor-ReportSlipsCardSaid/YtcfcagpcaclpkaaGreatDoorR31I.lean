/-
  The library's decoder and numerals, and the program's units.At: what they compute over the machine's memory. Conditions: the library's tables lie in memory.
-/
import Derived.Test.YtcfcagpcaclpkaaGreatDoorR31H
import Derived.Test.YtcfcagpcaclpkaaGreatDoorR31L
import Derived.Lib.AppendIntMem
set_option maxRecDepth 100000
namespace Go.Proofs.R31
open Go Go.Ce Go.RowKit
/-- The library's tables lie in memory. -/
structure Tabs (w : World) : Prop where
  utf : Lib.Utf8Tabs 0 1 w
  pow : Lib.TabIs Tryz.prog w "internal/strconv.uint64pow10" .u64 Lib.pow10Tab
  bits : TabAt 5 Lib.deBruijn64tab w
theorem cell_lt {w : World} {p : Addr} {v : Value} (h : w.cell? p = some v) : p.block < w.heap.size := by
  apply Nat.lt_of_not_le
  intro hle
  simp [World.cell?, Array.getElem?_eq_none hle] at h
theorem Tabs.on {w w' : World} (h : Tabs w) (hb : Below w.heap.size w w') : Tabs w' := ⟨Utf8Tabs_below h.utf hb, Lib.tabBelow_of_tabIs h.pow w' hb, fun j hj => (hb.cell (cell_lt (h.bits j hj))).trans (h.bits j hj)⟩
theorem below_grow (w : World) (k : Nat) (os : Array Obj) : Below w.heap.size w (Sort.grow (w.drewN k) os) := by
  refine ⟨rfl, rfl, rfl, ?_, fun j hj => ?_⟩
  · show w.heap.size ≤ (w.heap ++ os).size
    simp
  · show (w.heap ++ os)[j]? = w.heap[j]?
    rw [Array.getElem?_append_left hj]
section
variable {w0 : World} {A : AW}
theorem u8_back (l : List UInt8) : bs (l.map UInt8.toNat) = ⟨l.toArray⟩ := by
  unfold bs
  rw [List.map_map]
  congr 2
  conv => rhs; rw [← List.map_id l]
  exact List.map_congr_left fun x _ => by simp
theorem u8_all (l : List UInt8) : (l.map UInt8.toNat).all (fun m => decide (m < 256)) = true := by
  rw [List.all_eq_true]
  intro m hm
  obtain ⟨x, _, rfl⟩ := List.mem_map.1 hm
  simpa using x.toNat_lt
/-- ████ strconv.Itoa -/
theorem itoa_run (T : Tabs w0) (n : Int) (h0 : -9223372036854775808 ≤ n) (h1 : n ≤ 9223372036854775807) : F Tryz.prog w0 52 [.i .i64 n] A (fun r A' => A' = A ∧ r = .s (itoaN n)) := by
  refine ⟨.s (itoaN n), A, FD.of_calls (fn := Tryz.f52) Tryz.func52 (by kernel_rfl) rfl fun ρ w xs hw hx => ?_, rfl, rfl⟩
  simp only [concL, conc, Option.some.injEq] at hx
  subst hx
  refine (Tryz.strconv_Itoa n h0 h1 w (T.on hw.below).pow).mono ?_
  rintro e w' ⟨rfl, k, os, rfl⟩
  refine ⟨_, rfl, below_grow w k os, ?_⟩
  simp only [conc, itoaN, u8_all, if_true, u8_back]
/-- ████ pollard/report.Errno.Error, of a number that bears no name. -/
theorem errno_run (T : Tabs w0) (n : Int) (h0 : -9223372036854775808 ≤ n) (h1 : n ≤ 9223372036854775807) : F Tryz.prog w0 17 [.i .i64 n] A (fun r A' => A' = A ∧ r = .s ([101, 114, 114, 111, 114, 32] ++ itoaN n)) := by
  refine F.code 6 (by kernel_rfl) (v17 ⟨rfl, trivial⟩ ((itoa_run T n h0 h1).mono ?_))
  rintro r A' ⟨rfl, rfl⟩
  have := itoaN_len h0 h1
  exact ⟨_, rfl, by omega, rfl, rfl⟩
/-! ### The decoder -/
def tailB (l : List Nat) (i : Nat) : ByteArray := ⟨((l.drop i).map UInt8.ofNat).toArray⟩
theorem tailB_size (l : List Nat) (i : Nat) : (tailB l i).size = l.length - i := by simp [tailB, ByteArray.size]
theorem tailB_get (l : List Nat) (hl : Byt l) (i j : Nat) : ((tailB l i).get! j).toNat = byt l (i + j) := by
  have hb := byt_lt hl (i + j)
  have hs : (tailB l i).data.size = l.length - i := tailB_size l i
  by_cases h : i + j < l.length
  · have h1 : j < (tailB l i).data.size := by omega
    have e : (tailB l i).get! j = UInt8.ofNat (byt l (i + j)) := by
      show (tailB l i).data[j]! = _
      rw [getElem!_pos (tailB l i).data j h1]
      simp [tailB, byt, List.getD_eq_getElem?_getD, List.getElem?_eq_getElem h]
    rw [e, UInt8.toNat_ofNat']
    omega
  · have h1 : ¬ j < (tailB l i).data.size := by omega
    have e : (tailB l i).get! j = 0 := by
      show (tailB l i).data[j]! = _
      rw [getElem!_neg (tailB l i).data j h1]
      rfl
    rw [e]
    unfold byt
    rw [List.getD_eq_getElem?_getD, List.getElem?_eq_none (by omega)]
    rfl
theorem tail_decode (l : List Nat) (hl : Byt l) (i : Nat) (hi : i < l.length) : Lib.decodeGo (tailB l i) = Lib.decodeN (l.length - i) (byt l i) (byt l (i + 1)) (byt l (i + 2)) (byt l (i + 3)) := by
  unfold Lib.decodeGo
  rw [if_neg (by rw [tailB_size]; omega), Lib.decode_at, tailB_size]
  simp only [tailB_get l hl, Nat.sub_zero, Nat.add_zero, Nat.zero_add]
theorem bs_cells {ρ : Env} {w : World} {v : CV} {l : List Nat} (hw : WR w0 ρ A w) (h : Bs A v l) (hl : 0 < l.length) {x : Value} (hx : conc ρ v = some x) :
    ∃ b off cap, x = .slice (some ⟨b, off, none⟩) l.length cap ∧ ∀ j (hj : j < l.length), w.cell? ⟨b, off + j, none⟩ = some (.int .u8 (l[j] : Nat)) := by
  have h2 := h.sl.len
  have hxs : ∀ xs, concL ρ (l.map byteC) = some xs → ∀ j (hj : j < l.length), xs[j]? = some (.int .u8 (l[j] : Nat)) := by
    intro xs hxs j hj
    obtain ⟨y, e1, e2⟩ := concL_get hxs j (byteC l[j]) (by rw [List.getElem?_map, List.getElem?_eq_getElem hj]; rfl)
    simp only [byteC, conc, Option.some.injEq] at e1
    rw [e2, ← e1]; rfl
  rcases elems_run (P := Tryz.prog) hw h.sl.el hx with ⟨_, e⟩ | ⟨a, n, c, xs, rfl, e1, e2, e3, e4⟩
  · have : l = [] := by simpa using e
    subst this; simp at hl
  · have hcell : ∀ j (hj : j < l.length), w.cell? (a.add j) = some (.int .u8 (l[j] : Nat)) := fun j hj => e3 j _ (hxs xs e1 j hj)
    cases v <;> simp only [slLen, reduceCtorEq, Option.some.injEq] at h2
    case ns => omega
    case so => omega
    case sl b m k =>
      subst h2
      simp only [conc] at hx
      cases hρ : ρ b with
      | none => rw [hρ] at hx; cases hx
      | some L =>
        rw [hρ] at hx
        simp only at hx
        split at hx
        · injection hx with hx; injection hx with hx1 hx2 hx3
          injection hx1 with hx1
          subst hx1; subst hx2
          refine ⟨_, _, _, rfl, fun j hj => ?_⟩
          have := hcell j hj
          unfold Addr.add at this
          by_cases hz : j = 0
          · subst hz; simpa using this
          · rw [if_neg hz] at this; exact this
        · cases hx
    case se b o m k =>
      subst h2
      simp only [conc] at hx
      cases hρ : ρ b with
      | none => rw [hρ] at hx; cases hx
      | some L =>
        rw [hρ] at hx
        simp only at hx
        split at hx
        · injection hx with hx; injection hx with hx1 hx2 hx3
          injection hx1 with hx1
          subst hx1; subst hx2
          refine ⟨_, _, _, rfl, fun j hj => ?_⟩
          have := hcell j hj
          unfold Addr.add at this
          by_cases hz : j = 0
          · subst hz; simpa using this
          · rw [if_neg hz] at this; exact this
        · cases hx
/-- ████ utf8.DecodeRune -/
theorem decode_run (T : Tabs w0) {v : CV} {l : List Nat} {i : Nat} (hl : Byt l) (hi : i < l.length) (hb : Bs A v (l.drop i)) :
    F Tryz.prog w0 85 [v] A (fun r A' => A' = A ∧ r = .t [.i .i32 ((Lib.decodeN (l.length - i) (byt l i) (byt l (i + 1)) (byt l (i + 2)) (byt l (i + 3))).1 : Int), .i .i64 ((Lib.decodeN (l.length - i) (byt l i) (byt l (i + 1)) (byt l (i + 2)) (byt l (i + 3))).2 : Int)]) := by
  rw [← tail_decode l hl i hi]
  refine ⟨_, A, FD.of_calls (fn := Tryz.f85) Tryz.func85 (by kernel_rfl) rfl fun ρ w xs hw hx => ?_, rfl, rfl⟩
  simp only [concL] at hx
  cases hv : conc ρ v with
  | none => rw [hv] at hx; cases hx
  | some x =>
    rw [hv] at hx
    simp only [Option.some.injEq] at hx
    subst hx
    obtain ⟨b, off, cap, rfl, hc⟩ := bs_cells hw hb (by simp; omega) hv
    have hd := Tryz.utf8_DecodeRune (tailB l i) b off cap w (T.on hw.below).utf (fun j hj => by
      rw [tailB_size] at hj
      rw [hc j (by simp; omega), tailB_get l hl]
      simp only [List.getElem_drop, byt, List.getD_eq_getElem?_getD, List.getElem?_eq_getElem (show i + j < l.length by omega), Option.getD_some])
    rw [tailB_size, ← List.length_drop] at hd
    refine hd.mono ?_
    rintro e w' ⟨rfl, hb'⟩
    exact ⟨_, rfl, hb', by simp [conc, concL]⟩
/-- ████ units.At, at a place within the bytes. -/
theorem at_run (T : Tabs w0) {v : CV} {l : List Nat} (hb : Bs A v l) (i : Nat) (hi : i < l.length) (hlen : l.length < 1000000000) :
    F Tryz.prog w0 53 [v, .i .i64 (i : Int)] A (fun r A' => A' = A ∧ r = .t [.i .i32 ((unitAt l i).1 : Int), .i .i64 ((unitAt l i).2 : Int)]) := by
  obtain ⟨v', g1, g2⟩ := hb.slice (P := Tryz.prog) (a := some (.i .i64 (i : Int))) (u := none) u22 s5 rfl rfl (Nat.le_of_lt hi) (Nat.le_refl _)
  rw [List.take_of_length_le (by simp)] at g2
  obtain ⟨h1, h2, h3, h4⟩ := decodeN_n (l.length - i) (byt l i) (byt l (i + 1)) (byt l (i + 2)) (byt l (i + 3)) (by omega) (byt_lt hb.lt i)
  have hbi := byt_lt hb.lt i
  obtain ⟨b, o, e1, e2⟩ := hb.at (P := Tryz.prog) u22 s5 a5 hi .i64
  have e3 : (l[i] : Int) = (byt l i : Int) := by simp only [byt, List.getD_eq_getElem?_getD, List.getElem?_eq_getElem hi, Option.getD_some]
  obtain ⟨z, hz⟩ : ∃ z : Int, z = (i : Int) := ⟨_, rfl⟩
  rw [← hz]
  refine F.code 37 (by kernel_rfl) (v53 ⟨rfl, rfl, trivial⟩ (vcIf.decide (fun h => by omega) fun _ => ⟨_, hb.sl.len_ok u22, vcIf.decide (fun h => by simp only [Int.ofNat_eq_natCast] at h; omega) fun _ => ?_⟩))
  subst hz
  refine ⟨v', g1, (decode_run T hb.lt hi g2).mono ?_⟩
  rintro r A' ⟨rfl, rfl⟩
  refine ⟨_, _, rfl, ?_⟩
  unfold unitAt
  generalize Lib.decodeN (l.length - i) (byt l i) (byt l (i + 1)) (byt l (i + 2)) (byt l (i + 3)) = D at *
  obtain ⟨x, n⟩ := D
  simp only at h1 h2 h3 h4
  show vcIf _ _ _
  obtain ⟨z, hz⟩ : ∃ z : Int, z = (x : Int) := ⟨_, rfl⟩
  obtain ⟨y, hy⟩ : ∃ y : Int, y = (n : Int) := ⟨_, rfl⟩
  rw [← hz, ← hy]
  refine vcIf.decide (fun h5 => vcIf.decide (fun h6 => ?_) fun h6 => ?_) fun h5 => ?_
  · obtain rfl : x = 65533 := by omega
    obtain rfl : n = 1 := by omega
    rw [fixU_stray]
    refine ⟨b, o, e1, _, e2, _, rfl, _, rfl, rfl, ?_⟩
    rw [show (Int.ofNat l[i]) = (byt l i : Int) from e3, wrap32 (x := (byt l i : Int)) (by omega) (by omega), wrap32 (by omega) (by omega)]
    simp
  · rw [fixU_keep _ _ _ (by omega), hz, hy]; exact ⟨rfl, rfl⟩
  · rw [fixU_keep _ _ _ (by omega), hz, hy]; exact ⟨rfl, rfl⟩
end
end Go.Proofs.R31
