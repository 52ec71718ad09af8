/-
  FROM A CONTRACT OVER THE MACHINE TO A LAW's POST: arguments as read-only blocks; what is read behind a call that changes nothing. Conditions: each lemma's own.
-/
import Derived.Test.YtcfcagpcaclpkaaGreatDoorCfH
import Derived.WideKeyArgs
import Derived.ChangeSame
import Derived.ProofKit
import Derived.OpenShut
import Derived.Deep.Slices
import Derived.Lib.LaidTab
namespace Go.Ce
open Go Go.RowKit Go.ChangeShapes Go.WideShapes

/-! ### Memory made of arguments -/
def memR : List AObj → AW
  | [] => ⟨0, .e⟩
  | x :: l => (memR l).push x
theorem memR_next : ∀ l, (memR l).next = l.length
  | [] => rfl
  | x :: l => by show (memR l).next + 1 = _; rw [memR_next l]; rfl
theorem memR_get : ∀ (l : List AObj) (b : Nat), (memR l).heap.get b = l.reverse[b]?
  | [], b => by rw [List.reverse_nil, List.getElem?_nil]; exact T.get_e b
  | x :: l, b => by
    have hn := memR_next l
    rw [List.reverse_cons]
    by_cases h : b = (memR l).next
    · subst h
      rw [memR, push_same, List.getElem?_append_right (by simp [hn])]
      simp [hn]
    · rw [memR, push_other _ _ h, memR_get l b]
      by_cases hb : b < l.reverse.length
      · rw [List.getElem?_append_left hb]
      · rw [List.getElem?_eq_none (by omega), List.getElem?_append_right (by omega), List.getElem?_eq_none (by simp at hb ⊢; omega)]
theorem memR_fresh (l : List AObj) : (memR l).Fresh := fun b hb => by
  rw [memR_next] at hb
  rw [memR_get, List.getElem?_eq_none (by simpa using hb)]
/-- Where the arguments lie. -/
def envR (l : List Loc) : Env := fun b => l.reverse[b]?
theorem wr_args {W : World} {os : List AObj} {Ls : List Loc} (hl : os.length = Ls.length) (h : ∀ (b : Nat) (o : AObj) (L : Loc), os.reverse[b]? = some o → Ls.reverse[b]? = some L → o.ro = true ∧ ∃ C f, BR W.heap.size (envR Ls) W o L C f) : WR W (envR Ls) (memR os) W := by
  refine ⟨Below.refl _ _, fun b L hb => ?_, memR_fresh os, fun b ob L hb hL => ?_, fun b b' ob ob' L L' hb hb' hL hL' hro => ?_⟩
  · rw [memR_next, hl]
    have := (List.getElem?_eq_some_iff.1 hb).1
    simpa using this
  · rw [memR_get] at hb
    exact (h b ob L hb hL).2
  · rw [memR_get] at hb
    have := (h b ob L hb hL).1
    rw [this] at hro; cases hro

/-! ### A slice that is read -/
section
variable {H : Type} {enc : TypeId × Value → H} {P : Program} {W : World}
theorem slice_ok {t e : TypeId} {base : Nat} {v : Value} (ht : P.underlying t = some (.slice e)) (h : Value.okWide P W .any base t v) : v = .slice none 0 0 ∨ ∃ b off len cap C el f, v = .slice (some ⟨b, off, none⟩) len cap ∧ len ≤ cap ∧ W.heap[b]? = some (.cells C el f) := by
  obtain ⟨a, len, cap, rfl⟩ := okWide_slice ht h
  simp only [Value.okWide, ht, Cell.okWide, Cell.ok] at h
  cases a with
  | none =>
    cases len <;> cases cap <;> simp_all
  | some a =>
    simp only at h
    obtain ⟨h1, h2, h3, h4, row, cells, h5, h6⟩ := h
    right
    obtain ⟨b, off, spot⟩ := a
    simp only at h4 h5
    subst h4
    unfold World.shape? at h5
    split at h5
    · rename_i C el f hh
      exact ⟨b, off, len, cap, C, el, f, rfl, h1, hh⟩
    · cases h5
/-- THE CELLS OF A SLICE THAT IS READ: element for element. -/
theorem slice_read {t e : TypeId} {base k : Nat} {v : Value} {d : DataW H} {p : List MemPlace} (ht : P.underlying t = some (.slice e)) (hk : P.cellsOf e = k) (hok : Value.okWide P W .any base t v) (h : DataW.Trod enc P W 0 (fun _ => true) true t v d p) :
    v = .slice none 0 0 ∨ ∃ b off len cap C el f n, v = .slice (some ⟨b, off, none⟩) len cap ∧ len ≤ cap ∧ W.heap[b]? = some (.cells C el f) ∧ ∀ i, i < len → ∃ cs x, cs.length = k ∧ (∀ j, j < k → C[off + i * k + j]? = cs[j]?) ∧ DataW.trod enc P W 0 (fun _ => true) true n e cs = some x := by
  rcases slice_ok ht hok with rfl | ⟨b, off, len, cap, C, el, f, rfl, hl, hh⟩
  · exact .inl rfl
  · right
    obtain ⟨fuel, hf⟩ := h
    rcases Go.Deep.open_slice ht hf with ⟨h1, _⟩ | ⟨a, len', cap', m, n, D, Pl, h1, _, _, _, hm, _, hx⟩
    · simp [Value.cells] at h1
    · simp only [Value.cells, List.cons.injEq, and_true, Value.slice.injEq, Option.some.injEq] at h1
      obtain ⟨h1, h2, h3⟩ := h1
      subst h1; subst h2; subst h3
      simp only [if_true] at hm
      refine ⟨b, off, len, cap, C, el, f, n, rfl, hl, hh, fun i hi => ?_⟩
      obtain ⟨cs, h4, h5⟩ := hx i (by omega)
      rw [hk] at h4
      obtain ⟨_, h6, h7⟩ := World.cells?_some h4
      refine ⟨cs, _, h6, fun j hj => ?_, h5⟩
      have := h7 j hj
      rw [Go.Deep.add_add, Addr.add_lit] at this
      simp only [World.cell?, hh] at this
      rw [← this, Nat.add_assoc]
      rfl
/-- A value as it lies in the machine: blocks that are read, and the value that leads to them (of the first block's number). -/
structure Laid (W : World) (v : Value) (os : List (AObj × Loc)) (cv : Nat → CV) : Prop where
  ro : ∀ x ∈ os, x.1.ro = true
  br : ∀ (ρ : Env) (b : Nat), (∀ (i : Nat) x, os[i]? = some x → ρ (b + i) = some x.2) → ∀ x ∈ os, ∃ C f, BR W.heap.size ρ W x.1 x.2 C f
  val : ∀ (ρ : Env) (b : Nat), (∀ (i : Nat) x, os[i]? = some x → ρ (b + i) = some x.2) → conc ρ (cv b) = some v
theorem list_choose {α : Type} {p : Nat → α → Prop} : ∀ (n : Nat), (∀ i, i < n → ∃ a, p i a) → ∃ l : List α, l.length = n ∧ ∀ (i : Nat) a, l[i]? = some a → p i a
  | 0, _ => ⟨[], rfl, fun i a h => by simp at h⟩
  | n + 1, h => by
    obtain ⟨l, h1, h2⟩ := list_choose n (fun i hi => h i (by omega))
    obtain ⟨a, ha⟩ := h n (Nat.lt_succ_self n)
    refine ⟨l ++ [a], by simp [h1], fun i x hx => ?_⟩
    by_cases hi : i < l.length
    · rw [List.getElem?_append_left hi] at hx; exact h2 i x hx
    · have hlt := (List.getElem?_eq_some_iff.1 hx).1
      simp at hlt
      obtain rfl : i = l.length := by omega
      rw [List.getElem?_append_right (Nat.le_refl _)] at hx
      simp at hx
      subst hx
      rw [h1]; exact ha
theorem flat_len {α : Type} {toC : α → List CV} {k : Nat} : ∀ {l : List α}, (∀ a ∈ l, (toC a).length = k) → (l.flatMap toC).length = l.length * k
  | [], _ => by simp
  | a :: l, h => by
    rw [List.flatMap_cons, List.length_append, h a (by simp), flat_len (fun x hx => h x (by simp [hx])), List.length_cons, Nat.add_mul]
    omega
theorem flat_get {α : Type} {toC : α → List CV} {k : Nat} : ∀ {l : List α}, (∀ a ∈ l, (toC a).length = k) → ∀ (i j : Nat) a, l[i]? = some a → j < k → (l.flatMap toC)[i * k + j]? = (toC a)[j]?
  | [], _, i, j, a, h, _ => by simp at h
  | x :: l, h, 0, j, a, ha, hj => by
    simp at ha
    subst ha
    rw [List.flatMap_cons, List.getElem?_append_left (by rw [h x (by simp)]; omega)]
    simp
  | x :: l, h, i + 1, j, a, ha, hj => by
    rw [List.flatMap_cons, List.getElem?_append_right (by rw [h x (by simp), Nat.add_mul]; omega), h x (by simp), show (i + 1) * k + j - k = i * k + j by rw [Nat.add_mul]; omega]
    exact flat_get (fun y hy => h y (by simp [hy])) i j a (by simpa using ha) hj
/-- ████ A SLICE OF FLAT ELEMENTS AS A READ-ONLY BLOCK. -/
theorem flat_arg {t e : TypeId} {base k : Nat} {v : Value} {d : DataW H} {p : List MemPlace} (ht : P.underlying t = some (.slice e)) (hk : P.cellsOf e = k) (hk0 : 0 < k) (hok : Value.okWide P W .any base t v) (h : DataW.Trod enc P W 0 (fun _ => true) true t v d p)
    {α : Type} (toC : α → List CV) (good : α → Prop)
    (he : ∀ (n : Nat) (cs : List Value) (x : DataW H × List MemPlace), DataW.trod enc P W 0 (fun _ => true) true n e cs = some x → ∃ a, good a ∧ (toC a).length = k ∧ ∀ ρ, concL ρ (toC a) = some cs) :
    ∃ (os : List (AObj × Loc)) (cv : Nat → CV) (l : List α), Laid W v os cv ∧ (∀ a ∈ l, good a) ∧ (∀ (A : AW) b, (∀ (i : Nat) x, os[i]? = some x → A.heap.get (b + i) = some x.1) → Sl A k (cv b) l.length (l.flatMap toC)) := by
  rcases slice_read ht hk hok h with rfl | ⟨b, off, len, cap, C, el, f, n, rfl, hl, hh, hx⟩
  · exact ⟨[], fun _ => .ns, [], ⟨fun x hx => by simp at hx, fun _ _ _ x hx => by simp at hx, fun _ _ _ => rfl⟩, (fun a ha => by simp at ha), fun A _ _ => Sl.nil A k⟩
  · by_cases h0 : len = 0
    · subst h0
      refine ⟨[(⟨[], el, 0, 0, false, true⟩, ⟨b, 0, 0, 0⟩)], fun i => .se i off 0 cap, [], ⟨fun x hx => ?_, fun ρ i _ x hx => ?_, fun ρ i hρ => ?_⟩, (fun a ha => by simp at ha), fun A i hA => ⟨?_, rfl, ?_⟩⟩
      · simp at hx; subst hx; rfl
      · simp at hx; subst hx
        exact ⟨C, f, fun h => (by cases h), hh, fun j v hj => by simp at hj, fun h => (by cases h), rfl, by simp, fun _ => rfl⟩
      · have := hρ 0 _ rfl
        rw [Nat.add_zero] at this
        simp only [conc, this, if_pos hl, Nat.zero_add]
      · have := hA 0 _ rfl
        rw [Nat.add_zero] at this
        simp only [elemsA, cellsA, this]
        have := subN_of (l := ([] : List CV)) (r := []) (o := off) (fun j hj => by simp at hj)
        simpa using this
      · simp only [slCap, Nat.ble_eq]; omega
    · obtain ⟨l, h1, h2⟩ := list_choose (p := fun i a => good a ∧ (toC a).length = k ∧ ∃ cs, (∀ ρ, concL ρ (toC a) = some cs) ∧ ∀ j, j < k → C[off + i * k + j]? = cs[j]?) len (fun i hi => by
        obtain ⟨cs, x, g1, g2, g3⟩ := hx i hi
        obtain ⟨a, g4, g5, g6⟩ := he n cs x g3
        exact ⟨a, g4, g5, cs, g6, g2⟩)
      have hlen : ∀ a ∈ l, (toC a).length = k := fun a ha => by
        obtain ⟨i, hi⟩ := List.mem_iff_getElem?.1 ha
        exact (h2 i a hi).2.1
      have hfl := flat_len hlen
      have hoff : off ≤ C.size := by
        cases hl0 : l with
        | nil => rw [hl0] at h1; simp at h1; omega
        | cons a l' =>
          obtain ⟨_, g2, cs, g3, g4⟩ := h2 0 a (by rw [hl0]; rfl)
          have := g4 0 hk0
          have hcs := concL_len (g3 (fun _ => none))
          rw [List.getElem?_eq_getElem (by omega)] at this
          have := (Array.getElem?_eq_some_iff.1 this).1
          omega
      refine ⟨[(⟨l.flatMap toC, el, 1, 0, false, true⟩, ⟨b, off, 0, 1⟩)], fun i => .se i 0 len cap, l, ⟨fun x hx => ?_, fun ρ i _ x hx => ?_, fun ρ i hρ => ?_⟩, fun a ha => ?_, fun A i hA => ⟨?_, by rw [h1]; rfl, ?_⟩⟩
      · simp at hx; subst hx; rfl
      · simp at hx; subst hx
        refine ⟨C, f, fun h => (by cases h), hh, fun j v hj => ?_, fun h => (by cases h), rfl, by simpa using hoff, fun h => by cases h⟩
        have hjl := (List.getElem?_eq_some_iff.1 hj).1
        simp only at hjl hj
        rw [hfl] at hjl
        have hq : j / k < l.length := Nat.div_lt_of_lt_mul (by rw [Nat.mul_comm]; exact hjl)
        have hj' : j = j / k * k + j % k := by rw [Nat.mul_comm]; exact (Nat.div_add_mod j k).symm
        have hr : j % k < k := Nat.mod_lt _ hk0
        have ha := List.getElem?_eq_getElem hq
        obtain ⟨_, g2, cs, g3, g4⟩ := h2 _ _ ha
        have e1 := flat_get hlen _ _ _ ha hr
        rw [← hj', hj] at e1
        obtain ⟨x, e2, e3⟩ := concL_get (g3 ρ) _ _ e1.symm
        refine ⟨x, e2, ?_⟩
        have := g4 _ hr
        rw [e3] at this
        rw [← this]
        show C[off + j]? = _
        congr 1
        omega
      · have := hρ 0 _ rfl
        rw [Nat.add_zero] at this
        simp only [conc, this, if_pos hl, Nat.add_zero]
      · obtain ⟨i, hi⟩ := List.mem_iff_getElem?.1 ha
        exact (h2 i a hi).1
      · have := hA 0 _ rfl
        rw [Nat.add_zero] at this
        simp only [elemsA, cellsA, this]
        have := subN_of (l := l.flatMap toC) (r := l.flatMap toC) (o := 0) (fun j _ => by rw [Nat.zero_add])
        rw [hfl, h1] at this
        exact this
      · simp only [slCap, Nat.ble_eq]; omega
/-! ### Several arguments -/
/-- The memory of blocks that are read. -/
def memL (os : List (AObj × Loc)) : AW := memR (os.map (·.1)).reverse
def envL (os : List (AObj × Loc)) : Env := envR (os.map (·.2)).reverse
theorem memL_get (os : List (AObj × Loc)) (b : Nat) : (memL os).heap.get b = (os[b]?).map (·.1) := by
  unfold memL; rw [memR_get, List.reverse_reverse, List.getElem?_map]
theorem envL_get (os : List (AObj × Loc)) (b : Nat) : envL os b = (os[b]?).map (·.2) := by
  unfold envL envR; rw [List.reverse_reverse, List.getElem?_map]
theorem memL_fresh (os : List (AObj × Loc)) : (memL os).Fresh := memR_fresh _
/-- Values laid one behind the other. -/
structure LaidAll (W : World) (os : List (AObj × Loc)) : Prop where
  wr : WR W (envL os) (memL os) W
theorem laid_wr {os : List (AObj × Loc)} (hro : ∀ x ∈ os, x.1.ro = true) (hbr : ∀ x ∈ os, ∃ C f, BR W.heap.size (envL os) W x.1 x.2 C f) : WR W (envL os) (memL os) W := by
  refine wr_args (by simp) fun b o L ho hL => ?_
  rw [List.reverse_reverse, List.getElem?_map] at ho hL
  cases hx : os[b]? with
  | none => rw [hx] at ho; cases ho
  | some x =>
    rw [hx] at ho hL
    simp only [Option.map_some, Option.some.injEq] at ho hL
    subst ho; subst hL
    have := List.mem_of_getElem? hx
    exact ⟨hro x this, hbr x this⟩
/-- One value's blocks among the others. -/
theorem part_env {pre os post : List (AObj × Loc)} : ∀ (i : Nat) x, os[i]? = some x → envL (pre ++ os ++ post) (pre.length + i) = some x.2 ∧ (memL (pre ++ os ++ post)).heap.get (pre.length + i) = some x.1 := by
  intro i x hx
  have hi := (List.getElem?_eq_some_iff.1 hx).1
  have : (pre ++ os ++ post)[pre.length + i]? = some x := by
    rw [List.getElem?_append_left (by simp; omega), List.getElem?_append_right (by omega)]
    rw [show pre.length + i - pre.length = i by omega, hx]
  rw [envL_get, memL_get, this]
  exact ⟨rfl, rfl⟩
/-! ### Behind a call that changes nothing -/
theorem kept_below {W' : World} (h : Below W.heap.size W W') (may : MemPlace → Prop) : W.keptBut W' may := by
  refine ⟨h.os, h.output, fun i hi => ?_⟩
  rw [h.block i hi]
  cases hx : W.heap[i]? with
  | none => simp
  | some o =>
    cases o <;> simp
theorem trodAll_below (hlo : laidOutB P = true) {W' : World} (hb : Below W.heap.size W W') : ∀ {ts : List TypeId} {vs : List Value} {ds : List (DataW H)} {ps : List MemPlace}, (∀ t ∈ ts, P.readableRec t = true ∧ t < P.types.size) → DataW.TrodAll enc P W 0 (fun _ => true) true ts vs ds ps → (∀ q ∈ ps, q.block < W.heap.size) →
    DataW.TrodAll enc P W' 0 (fun b => decide (b < W.heap.size)) true ts vs ds ps
  | [], vs, ds, ps, _, h, _ => by
    obtain ⟨rfl, rfl, rfl⟩ := trodAll_nil h
    exact trodAll_mk0
  | t :: ts, vs, ds, ps, ht, h, hlt => by
    obtain ⟨v, vs', d, ds', p, q, rfl, rfl, rfl, h0, h1⟩ := trodAll_cons h
    obtain ⟨r1, r2⟩ := ht t (by simp)
    exact ⟨p, q, Go.WideElems.Trod_stays hlo r1 r2 h0 (fun x hx => hb.same (hlt x (by simp [hx]))) (fun x hx => by simpa using hlt x (by simp [hx])), trodAll_below hlo hb (fun u hu => ht u (by simp [hu])) h1 (fun x hx => hlt x (by simp [hx])), rfl⟩
/-- ████ A LAW's POST: true; what was read reads as it did. -/
theorem post_true {f : Func} {s : ChangeSpec} {apart fresh handsOn : Bool} {W' : World} {args : Array Value} {ds gs : List (DataW H)} {before : List MemPlace} {rt : TypeId} (hlo : laidOutB P = true) (hread : ∀ t ∈ f.params.toList, P.readableRec t = true ∧ t < P.types.size)
    (hvars : s.vars = []) (hrt : f.resultTypes = #[rt]) (hbt : P.underlying rt = some .bool) (hW : DataW.Whole enc P f.params.toList s.vars apart W args.toList ds gs before) (hb : Below W.heap.size W W')
    (hfn : (s.fn H (ds ++ gs)).results = [.lit (.bool true)] ∧ (s.fn H (ds ++ gs)).args = ds ∧ (s.fn H (ds ++ gs)).vars = []) :
    s.post enc P f apart fresh handsOn false W args (.bool true) W' := by
  obtain ⟨f1, f2, f3⟩ := hfn
  have hlt := hW.lt
  have hW' := hW
  obtain ⟨p, q, hA, hV, rfl, _, _⟩ := hW'
  rw [hvars] at hV
  obtain ⟨rfl, rfl⟩ := trodVars_none hV
  refine ⟨ds, [], p ++ [], [], p, [], hW, ?_, ?_, ?_, World.keptBut_mono (fun x hx => hx.elim) (kept_below hb (fun _ => False)), fun h => by cases h⟩
  · rw [f1, hrt]
    exact ⟨[], [], ⟨1, by simp [DataW.trod, Value.cells, hbt]⟩, rfl, rfl⟩
  · rw [f2]
    exact trodAll_below hlo hb hread hA (fun x hx => hlt x (by simp [hx]))
  · rw [f3, hvars]; exact rfl
end
end Go.Ce
