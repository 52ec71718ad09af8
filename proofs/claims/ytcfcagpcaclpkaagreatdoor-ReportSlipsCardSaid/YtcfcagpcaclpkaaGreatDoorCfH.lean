/-
  WHAT LIES IN THE MACHINE's MEMORY: slices as lists of cells; loads, slices, appends. Conditions: each lemma's own.
-/
import Derived.Test.YtcfcagpcaclpkaaGreatDoorCfB
namespace Go.Ce
open Go Go.RowKit

/-! ### Memory -/
def AW.Fresh (A : AW) : Prop := ∀ b, A.next ≤ b → A.heap.get b = none
theorem push_same (A : AW) (ob : AObj) : (A.push ob).heap.get A.next = some ob := T.get_up_same _ _ _
theorem push_other (A : AW) (ob : AObj) {b : Nat} (h : b ≠ A.next) : (A.push ob).heap.get b = A.heap.get b := T.get_up_other _ _ h
theorem AW.Fresh.push {A : AW} (h : A.Fresh) (ob : AObj) : (A.push ob).Fresh := fun b hb => by
  have hb' : A.next + 1 ≤ b := hb
  rw [push_other A ob (by omega)]
  exact h b (by omega)
theorem AW.Fresh.put {A : AW} (h : A.Fresh) {b : Nat} (hb : b < A.next) (o : Option AObj) : (A.put b o).Fresh := fun c hc => by
  have hc' : A.next ≤ c := hc
  rw [(AW.put_get A b o).2.2 c (by omega)]
  exact h c hc'
theorem AW.Fresh.lt {A : AW} (h : A.Fresh) {b : Nat} {ob : AObj} (hb : A.heap.get b = some ob) : b < A.next := by
  apply Nat.lt_of_not_le
  intro hle
  rw [h b hle] at hb
  cases hb
theorem Ext'.push (A : AW) (ob : AObj) : Ext' A (A.push ob) := ⟨Nat.le_succ _, fun b hb => push_other A ob (by omega)⟩
theorem Ext'.get {A A' : AW} (h : Ext' A A') (hA : A.Fresh) {b : Nat} {ob : AObj} (hb : A.heap.get b = some ob) : A'.heap.get b = some ob := by rw [h.same b (hA.lt hb)]; exact hb
/-- The memory is as it was, but for one block or two. -/
structure But (A : AW) (b c : Nat) (A' : AW) : Prop where
  next : A.next ≤ A'.next
  same : ∀ d, d < A.next → d ≠ b → d ≠ c → A'.heap.get d = A.heap.get d
theorem Ext'.but {A A' : AW} (h : Ext' A A') (b c : Nat) : But A b c A' := ⟨h.next, fun d hd _ _ => h.same d hd⟩
theorem But.get {A A' : AW} {b c : Nat} (h : But A b c A') (hA : A.Fresh) {d : Nat} {ob : AObj} (hd : A.heap.get d = some ob) (h1 : d ≠ b) (h2 : d ≠ c) : A'.heap.get d = some ob := by rw [h.same d (hA.lt hd) h1 h2]; exact hd

/-! ### Cells -/
def cellAt (A : AW) (b o : Nat) : Option CV := match A.heap.get b with
  | some ob => getN ob.cells o
  | none => none
theorem cellAt_of {A : AW} {b : Nat} {ob : AObj} (h : A.heap.get b = some ob) (o : Nat) : cellAt A b o = ob.cells[o]? := by simp only [cellAt, h, getN_eq]
section
variable {P : Program} {A : AW}
theorem load_cell {t : TypeId} {b o : Nat} {v : CV} (h : aggP P t = some false) (hc : cellAt A b o = some v) : loadA P A t b o = some v := by
  unfold cellAt at hc
  unfold loadA
  split at hc
  · rename_i ob hb; simp only [hb, partA, h]; exact hc
  · cases hc
theorem subN_of {α : Type} {l r : List α} {o : Nat} (h : ∀ j, j < r.length → l[o + j]? = r[j]?) : subN l o r.length = some r := by
  have key : ∀ (r m : List α), (∀ j, j < r.length → m[j]? = r[j]?) → cutN m r.length = some r := by
    intro r
    induction r with
    | nil => intro m _; rfl
    | cons x r ih =>
      intro m hm
      cases m with
      | nil => have := hm 0 (by simp); simp at this
      | cons y m =>
        have h0 := hm 0 (by simp)
        simp at h0
        subst h0
        have := ih m (fun j hj => by have := hm (j + 1) (by simp; omega); simpa using this)
        simp only [List.length_cons, cutN] at this ⊢
        simp only [this]
  unfold subN
  rw [dropN_eq]
  exact key r _ fun j hj => by rw [List.getElem?_drop]; exact h j hj
theorem load_struct {t : TypeId} {b o : Nat} {l : List CV} (h : aggP P t = some true) (hs : sizeP P t = some l.length) {ob : AObj} (hb : A.heap.get b = some ob) (hc : ∀ j, j < l.length → ob.cells[o + j]? = l[j]?) : loadA P A t b o = some (.a l) := by
  unfold loadA
  simp only [hb, partA, h, hs]
  rw [subN_of hc]

/-! ### Slices -/
def slLen : CV → Option Nat
  | .ns => some 0
  | .sl _ n _ => some n
  | .se _ _ n _ => some n
  | .so _ _ _ => some 0
  | _ => none
def slCap : CV → Bool
  | .se _ _ n c => Nat.ble n c
  | _ => true
structure Sl (A : AW) (size : Nat) (v : CV) (n : Nat) (cs : List CV) : Prop where
  el : elemsA A size v = some cs
  len : slLen v = some n
  cap : slCap v = true
theorem Sl.nil (A : AW) (size : Nat) : Sl A size .ns 0 [] := ⟨rfl, rfl, rfl⟩
theorem Sl.length {size : Nat} {v : CV} {n : Nat} {cs : List CV} (h : Sl A size v n cs) : cs.length = n * size := by
  obtain ⟨h1, h2, h0⟩ := h
  cases v <;> simp only [slLen, reduceCtorEq, Option.some.injEq] at h2 <;> subst h2 <;> simp only [elemsA] at h1
  case ns => simp only [Option.some.injEq] at h1; subst h1; simp
  case sl b n k =>
    split at h1
    · exact (subN_get (cond_some h1).2).1
    · cases h1
  case se b o n c =>
    unfold cellsA at h1
    split at h1
    · exact (subN_get h1).1
    · cases h1
  case so b k0 k => simp only [Option.some.injEq] at h1; subst h1; simp
theorem Sl.one {size : Nat} {v : CV} {n : Nat} {cs : List CV} (h : Sl A size v n cs) : v.one = true ∧ v.cells = [v] := by
  have h2 := h.len
  cases v <;> simp only [slLen, reduceCtorEq] at h2 <;> exact ⟨rfl, rfl⟩
/-- The block that a slice lies in. -/
def slBlk : CV → Option Nat
  | .sl b _ _ => some b
  | .se b _ _ _ => some b
  | _ => none
theorem Sl.keep {size : Nat} {v : CV} {n : Nat} {cs : List CV} (h : Sl A size v n cs) {A' : AW} (hk : ∀ b ob, slBlk v = some b → A.heap.get b = some ob → A'.heap.get b = some ob) : Sl A' size v n cs := by
  obtain ⟨h1, h2, h0⟩ := h
  refine ⟨?_, h2, h0⟩
  cases v <;> simp only [slLen, reduceCtorEq] at h2 <;> simp only [elemsA] at h1 ⊢
  case ns => exact h1
  case sl b n k =>
    split at h1
    · rename_i ob hb; rw [hk b ob rfl hb]; exact h1
    · cases h1
  case se b o n c =>
    unfold cellsA at h1 ⊢
    split at h1
    · rename_i ob hb; rw [hk b ob rfl hb]; exact h1
    · cases h1
  case so b k0 k => exact h1
theorem Sl.ext {size : Nat} {v : CV} {n : Nat} {cs : List CV} (h : Sl A size v n cs) (hA : A.Fresh) {A' : AW} (hx : Ext' A A') : Sl A' size v n cs := h.keep fun _ _ _ hb => hx.get hA hb
theorem Sl.len_ok {size : Nat} {v : CV} {n : Nat} {cs : List CV} (h : Sl A size v n cs) {t e : TypeId} (ht : P.underlying t = some (.slice e)) : builtinV P .len [t] [v] = some (.i .i64 (Int.ofNat n)) := by
  have h2 := h.len
  cases v <;> simp only [slLen, reduceCtorEq, Option.some.injEq] at h2 <;> subst h2 <;> simp only [builtinV, lenA, ht]
theorem Sl.addr {size : Nat} {v : CV} {n : Nat} {cs : List CV} (h : Sl A size v n cs) {t e : TypeId} (ht : P.underlying t = some (.slice e)) (hs : sizeP P e = some size) {i : Nat} (hi : i < n) (k : IntKind) :
    ∃ b o, indexAddrA P A t v (.i k (Int.ofNat i)) = some (.p b o) ∧ ∀ j, j < size → cellAt A b (o + j) = cs[i * size + j]? := by
  obtain ⟨h1, h2, h0⟩ := h
  cases v <;> simp only [slLen, reduceCtorEq, Option.some.injEq] at h2 <;> subst h2
  case ns => omega
  case so b k0 k => omega
  case sl b n q =>
    simp only [elemsA] at h1
    split at h1
    · rename_i ob hb
      obtain ⟨h3, h4⟩ := cond_some h1
      have hlt := (blt_iff _ _).2 hi
      refine ⟨b, (q + i) * size, by simp only [indexAddrA, idxOf, ht, hs, hb, h3, hlt, Bool.and_self, cond_true], fun j hj => ?_⟩
      obtain ⟨g1, g2⟩ := subN_get h4
      have : i * size + j < n * size := by
        have : (i + 1) * size ≤ n * size := Nat.mul_le_mul_right _ hi
        rw [Nat.add_mul] at this
        omega
      rw [cellAt_of hb, g2 _ this]
      congr 1
      rw [Nat.add_mul]
      omega
    · cases h1
  case se b o n c =>
    simp only [elemsA] at h1
    unfold cellsA at h1
    split at h1
    · rename_i ob hb
      have hlt := (blt_iff _ _).2 hi
      refine ⟨b, o + i * size, by simp only [indexAddrA, idxOf, ht, hs, hlt, cond_true], fun j hj => ?_⟩
      obtain ⟨g1, g2⟩ := subN_get h1
      have : i * size + j < n * size := by
        have : (i + 1) * size ≤ n * size := Nat.mul_le_mul_right _ hi
        rw [Nat.add_mul] at this
        omega
      rw [cellAt_of hb, g2 _ this]
      congr 1
      omega
    · cases h1
theorem subN_sub {α : Type} {l r : List α} {o m : Nat} (h : subN l o m = some r) {a c : Nat} (hac : a + c ≤ m) : subN l (o + a) c = some ((r.drop a).take c) := by
  obtain ⟨g1, g2⟩ := subN_get h
  have hl : ((r.drop a).take c).length = c := by simp; omega
  have := subN_of (l := l) (r := (r.drop a).take c) (o := o + a) (fun j hj => by
    rw [hl] at hj
    rw [List.getElem?_take_of_lt hj, List.getElem?_drop, g2 (a + j) (by omega), Nat.add_assoc])
  rw [hl] at this
  exact this
theorem Sl.slice {size : Nat} {v : CV} {n : Nat} {cs : List CV} (h : Sl A size v n cs) {t e : TypeId} (ht : P.underlying t = some (.slice e)) (hs : sizeP P e = some size) {l u : Option CV} {lo hi : Nat} (hl : boundV l 0 = some lo) (hu : boundV u n = some hi) (h1 : lo ≤ hi) (h2 : hi ≤ n) :
    ∃ v', sliceV P A t v l u none = some v' ∧ Sl A size v' (hi - lo) ((cs.drop (lo * size)).take ((hi - lo) * size)) := by
  have hlen := h.length
  obtain ⟨g1, g2, g0⟩ := h
  have b1 : Nat.ble lo hi = true := by rw [Nat.ble_eq]; exact h1
  have b2 : Nat.ble hi n = true := by rw [Nat.ble_eq]; exact h2
  have hmul : lo * size + (hi - lo) * size ≤ n * size := by rw [← Nat.add_mul]; exact Nat.mul_le_mul_right _ (by omega)
  cases v <;> simp only [slLen, reduceCtorEq, Option.some.injEq] at g2 <;> subst g2
  case ns =>
    obtain rfl : lo = 0 := by omega
    obtain rfl : hi = 0 := by omega
    simp only [elemsA, Option.some.injEq] at g1
    subst g1
    exact ⟨.ns, by simp [sliceV, ht, hl, hu, hs], by simp; exact Sl.nil A size⟩
  case so b k0 k =>
    obtain rfl : lo = 0 := by omega
    obtain rfl : hi = 0 := by omega
    simp only [elemsA, Option.some.injEq] at g1
    subst g1
    exact ⟨.so b k0 k, by simp [sliceV, ht, hl, hu, hs], ⟨by simp [elemsA], rfl, rfl⟩⟩
  case sl b n q =>
    simp only [elemsA] at g1
    split at g1
    · rename_i ob hb
      obtain ⟨h3, h4⟩ := cond_some g1
      cases h7 : (Nat.beq lo 0 || Nat.blt lo n) with
      | true =>
        refine ⟨.sl b (hi - lo) (q + lo), by simp only [sliceV, ht, hl, hu, hb, hs, b1, b2, h3, h7, Bool.and_self, cond_true], ?_, rfl, rfl⟩
        simp only [elemsA, hb, h3, cond_true]
        have := subN_sub h4 (a := lo * size) (c := (hi - lo) * size) hmul
        rw [← Nat.add_mul] at this
        exact this
      | false =>
        rw [Bool.or_eq_false_iff] at h7
        have hlo : lo = n := by
          have h9 : ¬ lo < n := fun e => by rw [← blt_iff, h7.2] at e; cases e
          omega
        refine ⟨.so b q (q + lo), by simp only [sliceV, ht, hl, hu, hb, hs, b1, b2, h3, h7.1, h7.2, Bool.or_self, Bool.and_self, cond_true, cond_false], ?_, ?_, rfl⟩
        · simp only [elemsA, show hi - lo = 0 by omega, Nat.zero_mul, List.take_zero]
        · simp only [slLen, show hi - lo = 0 by omega]
    · cases g1
  case se b o n c =>
    simp only [elemsA] at g1
    unfold cellsA at g1
    split at g1
    · rename_i ob hb
      have hnc : n ≤ c := by simpa [slCap] using g0
      have hc : hi ≤ c := by omega
      have b3 : Nat.ble hi c = true := by rw [Nat.ble_eq]; exact hc
      refine ⟨.se b (cond (Nat.beq c lo) o (o + lo * size)) (hi - lo) (c - lo), by simp only [sliceV, ht, hl, hu, hs, b1, b3, Bool.and_self, cond_true], ?_, rfl, by simp only [slCap, Nat.ble_eq]; omega⟩
      simp only [elemsA]
      unfold cellsA
      simp only [hb]
      cases hcl : Nat.beq c lo with
      | true =>
        have : c = lo := (beqN_iff _ _).1 hcl
        simp only [cond_true, show hi - lo = 0 by omega, Nat.zero_mul, List.take_zero]
        rfl
      | false => exact subN_sub g1 hmul
    · cases g1

/-! ### Bytes -/
def byteC (m : Nat) : CV := .i .u8 (Int.ofNat m)
def Byt (l : List Nat) : Prop := ∀ m ∈ l, m < 256
theorem bytesA_of : ∀ {l : List Nat}, Byt l → bytesA (l.map byteC) = some l
  | [], _ => rfl
  | m :: l, h => by
    have h1 : Nat.blt m 256 = true := (blt_iff _ _).2 (h m (by simp))
    have := bytesA_of (l := l) fun x hx => h x (by simp [hx])
    simp only [List.map_cons, byteC, bytesA]
    simp only [this, h1, cond_true]
/-- A slice of bytes. -/
structure Bs (A : AW) (v : CV) (l : List Nat) : Prop where
  sl : Sl A 1 v l.length (l.map byteC)
  lt : Byt l
theorem Bs.conv {v : CV} {l : List Nat} (h : Bs A v l) {s d e : TypeId} (hs : P.underlying s = some (.slice e)) (he : P.underlying e = some (.int .u8)) (hd : P.underlying d = some .string) : convA P A s d v = some (.s l) := by
  have h1 := h.sl.el
  have h2 := h.sl.len
  have hb := bytesA_of h.lt
  cases v <;> simp only [slLen, reduceCtorEq, Option.some.injEq] at h2
  case ns =>
    have : l = [] := List.length_eq_zero_iff.1 h2.symm
    subst this
    simp only [convA, hs, hd, he]
  case so b k0 k =>
    have : l = [] := List.length_eq_zero_iff.1 h2.symm
    subst this
    simp only [convA, hs, hd, he]
  case sl b n k => subst h2; simp only [convA, hs, hd, he, h1, hb]
  case se b o n c => subst h2; simp only [convA, hs, hd, he, h1, hb]
theorem Bs.ext {v : CV} {l : List Nat} (h : Bs A v l) (hA : A.Fresh) {A' : AW} (hx : Ext' A A') : Bs A' v l := ⟨h.sl.ext hA hx, h.lt⟩
theorem Bs.nil (A : AW) : Bs A .ns [] := ⟨Sl.nil A 1, fun _ h => by cases h⟩
theorem Bs.at {v : CV} {l : List Nat} (h : Bs A v l) {t e : TypeId} (ht : P.underlying t = some (.slice e)) (hs : sizeP P e = some 1) (ha : aggP P e = some false) {i : Nat} (hi : i < l.length) (k : IntKind) :
    ∃ b o, indexAddrA P A t v (.i k (Int.ofNat i)) = some (.p b o) ∧ loadA P A e b o = some (.i .u8 (Int.ofNat (l[i]))) := by
  obtain ⟨b, o, h1, h2⟩ := h.sl.addr ht hs hi k
  refine ⟨b, o, h1, load_cell ha ?_⟩
  have := h2 0 (by omega)
  rw [Nat.add_zero, Nat.mul_one, Nat.add_zero] at this
  rw [this, List.getElem?_map, List.getElem?_eq_getElem hi]
  rfl
theorem Bs.slice {v : CV} {l : List Nat} (h : Bs A v l) {t e : TypeId} (ht : P.underlying t = some (.slice e)) (hs : sizeP P e = some 1) {a u : Option CV} {lo hi : Nat} (hl : boundV a 0 = some lo) (hu : boundV u l.length = some hi) (h1 : lo ≤ hi) (h2 : hi ≤ l.length) :
    ∃ v', sliceV P A t v a u none = some v' ∧ Bs A v' ((l.drop lo).take (hi - lo)) := by
  obtain ⟨v', g1, g2⟩ := h.sl.slice ht hs hl hu h1 h2
  refine ⟨v', g1, ⟨?_, fun m hm => h.lt m (List.mem_of_mem_drop (List.mem_of_mem_take hm))⟩⟩
  have e : ((l.drop lo).take (hi - lo)).length = hi - lo := by simp; omega
  rw [e]
  rw [Nat.mul_one, Nat.mul_one, ← List.map_drop, ← List.map_take] at g2
  exact g2
/-- A text made bytes. -/
theorem s2b_ok {l : List Nat} (h : Byt l) (hlen : l.length < 1099511627776) {s d e : TypeId} (hs : P.underlying s = some .string) (hd : P.underlying d = some (.slice e)) (he : P.underlying e = some (.int .u8)) (hz : sizeP P e = some 1) :
    ∃ v A', s2bA P A s d (.s l) = some (v, A') ∧ Ext' A A' ∧ Bs A' v l ∧ (A.Fresh → A'.Fresh) := by
  have hb : Nat.blt (lenN l) 1099511627776 = true := by rw [blt_iff, lenN_eq]; exact hlen
  refine ⟨.sl A.next (lenN l) 0, A.push ⟨l.map byteC, e, 1, 0, true, false⟩, ?_, Ext'.push _ _, ⟨⟨?_, ?_, rfl⟩, h⟩, fun hA => hA.push _⟩
  · simp only [s2bA, hs, hd, he, hz, hb, cond_true, AW.new_push]
    rfl
  · simp only [elemsA, push_same, lenN_eq, Nat.zero_mul, Nat.mul_one]
    have := subN_of (l := l.map byteC) (r := l.map byteC) (o := 0) (fun j _ => by rw [Nat.zero_add])
    simp only [List.length_map] at this
    exact this
  · simp only [slLen, lenN_eq]

/-! ### Rows that grow -/
/-- A row of the call's own: a slice that alone holds its block. -/
inductive Own (A : AW) (e size : Nat) : CV → Nat → List CV → Option Nat → Prop where
  | nil : Own A e size .ns 0 [] none
  | row {b n : Nat} {cs : List CV} {fz : Nat} (h : A.heap.get b = some ⟨cs, e, size, fz, false, false⟩) (hf : fz ≤ n * size) (hl : cs.length = n * size) (hp : 0 < n) : Own A e size (.sl b n 0) n cs (some b)
theorem Own.sl {e size : Nat} {v : CV} {n : Nat} {cs : List CV} {b : Option Nat} (h : Own A e size v n cs b) : Sl A size v n cs := by
  cases h with
  | nil => exact Sl.nil A size
  | row h hf hl hp =>
    refine ⟨?_, rfl, rfl⟩
    have hb : Nat.beq size size = true := Nat.beq_refl size
    simp only [elemsA, h, hb, cond_true, Nat.zero_mul]
    have := subN_of (l := cs) (r := cs) (o := 0) (fun j _ => by rw [Nat.zero_add])
    rw [hl] at this
    exact this
theorem Own.keep {e size : Nat} {v : CV} {n : Nat} {cs : List CV} {b : Option Nat} (h : Own A e size v n cs b) {A' : AW} (hk : ∀ d ob, b = some d → A.heap.get d = some ob → A'.heap.get d = some ob) : Own A' e size v n cs b := by
  cases h with
  | nil => exact .nil
  | row h hf hl hp => exact .row (hk _ _ rfl h) hf hl hp
/-- The memory is as it was, but for one block. -/
structure But1 (A : AW) (b : Option Nat) (A' : AW) : Prop where
  next : A.next ≤ A'.next
  same : ∀ d, d < A.next → b ≠ some d → A'.heap.get d = A.heap.get d
theorem But1.get {A A' : AW} {b : Option Nat} (h : But1 A b A') (hA : A.Fresh) {d : Nat} {ob : AObj} (hd : A.heap.get d = some ob) (h1 : b ≠ some d) : A'.heap.get d = some ob := by rw [h.same d (hA.lt hd) h1]; exact hd
theorem But1.ext {A A' : AW} (h : But1 A none A') : Ext' A A' := ⟨h.next, fun d hd => h.same d hd (by simp)⟩
/-- ████ append to a row of the call's own. -/
theorem append_own {t u e : TypeId} {i : TypeInfo} {z : CV} (ht : P.underlying t = some (.slice e)) (hu : notInt (P.underlying u) = true) (hi : P.info? e = some i) (hz : zeroA P e = some z) (hzl : z.cells.length = i.size) (h0 : 0 < i.size)
    {v x : CV} {n m : Nat} {cs news : List CV} {b : Option Nat} (h : Own A e i.size v n cs b) (ho : allOne cs = true) (hn : newsA A i.size x = some (m, news)) (hnl : news.length = m * i.size) (hno : allOne news = true) (hA : A.Fresh)
    (hb1 : (n + m) * i.bytes < 1099511627776) (hb2 : n + m < 1099511627776) :
    ∃ v' A' b', appendA P A t u v x = some (v', A') ∧ Own A' e i.size v' (n + m) (cs ++ news) b' ∧ But1 A b A' ∧ A'.Fresh ∧ (b' = b ∨ ∃ d, b' = some d ∧ A.next ≤ d) := by
  have c1 : Nat.beq (lenN z.cells) i.size = true := by rw [beqN_iff, lenN_eq]; exact hzl
  have c2 : Nat.blt 0 i.size = true := (blt_iff _ _).2 h0
  cases h with
  | nil =>
    by_cases hm : m = 0
    · subst hm
      have hnil : news = [] := List.length_eq_zero_iff.1 (by rw [hnl]; simp)
      subst hnil
      refine ⟨.ns, A, none, ?_, .nil, ⟨Nat.le_refl _, fun _ _ _ => rfl⟩, hA, .inl rfl⟩
      simp [appendA, hu, ht, hi, hn, hz, c1, c2, hno]
    · have c3 : Nat.beq m 0 = false := by rw [Bool.eq_false_iff]; exact fun e => hm ((beqN_iff _ _).1 e)
      have c4 : Nat.blt (m * i.bytes) 1099511627776 = true := (blt_iff _ _).2 (by simpa using hb1)
      have c5 : Nat.blt m 1099511627776 = true := (blt_iff _ _).2 (by simpa using hb2)
      refine ⟨.sl A.next m 0, A.push ⟨news, e, i.size, 0, false, false⟩, some A.next, ?_, ?_, ⟨Nat.le_succ _, fun d hd _ => push_other _ _ (by omega)⟩, hA.push _, .inr ⟨_, rfl, Nat.le_refl _⟩⟩
      · simp only [appendA, hu, ht, hi, hn, hz, c1, c2, c3, c4, c5, hno, Bool.and_self, cond_true, cond_false, AW.new_push]
      · rw [Nat.zero_add, List.nil_append]
        exact .row (push_same _ _) (Nat.zero_le _) hnl (by omega)
  | row h hf hl hp =>
    rename_i b fz
    have c3 : Nat.beq i.size i.size = true := Nat.beq_refl _
    have c4 : Nat.ble fz ((0 + n) * i.size) = true := by rw [Nat.ble_eq, Nat.zero_add]; exact hf
    have c5 : Nat.blt ((n + m) * i.bytes) 1099511627776 = true := (blt_iff _ _).2 hb1
    have c6 : Nat.blt (n + m) 1099511627776 = true := (blt_iff _ _).2 hb2
    have c7 : Nat.beq e e = true := Nat.beq_refl _
    have c8 : subN cs (0 * i.size) (n * i.size) = some cs := by
      have := subN_of (l := cs) (r := cs) (o := 0) (fun j _ => by rw [Nat.zero_add])
      rw [hl] at this
      rw [Nat.zero_mul]
      exact this
    have hlt := hA.lt h
    obtain ⟨p1, p2, p3⟩ := AW.put_get A b none
    refine ⟨.sl (A.put b none).next (n + m) 0, (A.put b none).push ⟨cs ++ news, e, i.size, fz - 0 * i.size, false, false⟩, some (A.put b none).next, ?_, ?_, ⟨Nat.le_succ _, fun d hd hne => ?_⟩, (hA.put hlt none).push _, .inr ⟨_, rfl, Nat.le_refl _⟩⟩
    · simp only [appendA, hu, ht, hi, hn, hz, c1, c2, h, c3, c4, c5, c6, c7, c8, ho, hno, Bool.and_self, Bool.not_false, cond_true, AW.new_push]
      rfl
    · refine .row (push_same _ _) ?_ ?_ (by omega)
      · rw [Nat.add_mul]; omega
      · rw [List.length_append, hl, hnl, Nat.add_mul]
    · have hd' : d ≠ (A.put b none).next := by show d ≠ A.next; omega
      rw [push_other _ _ hd', p3 d (fun e => hne (by rw [e]))]
end
end Go.Ce
