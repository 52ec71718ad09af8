/-
  WHAT IS TO BE SHOWN OF A STRETCH OF CODE, reckoned from the code: operations. Conditions: none.
-/
import Derived.Test.YtcfcagpcaclpkaaGreatDoorCeY
namespace Go.Ce
open Go Go.RowKit

/-- A value of a type's form. -/
def shaped (d : Option TypeDesc) (R : CV → Prop) : Prop := match d with
  | some (.int k) => ∃ x : Int, R (.i k x)
  | some .bool => ∃ x : Bool, R (.b x)
  | some .string => ∃ l : List Nat, R (.s l)
  | _ => ∃ v : CV, R v
theorem shaped_some {d : Option TypeDesc} {R : CV → Prop} (h : shaped d R) : ∃ v, R v := by
  unfold shaped at h
  split at h <;> obtain ⟨x, hx⟩ := h <;> exact ⟨_, hx⟩
def vcIf (t : Bool) (a b : Prop) : Prop := match t with
  | true => a
  | false => b
theorem vcIf.of {t : Bool} {a b : Prop} (h1 : t = true → a) (h2 : t = false → b) : vcIf t a b := by cases t with
  | true => exact h1 rfl
  | false => exact h2 rfl
theorem vcIf.decide {p : Prop} [Decidable p] {a b : Prop} (h1 : p → a) (h2 : ¬ p → b) : vcIf (decide p) a b :=
  .of (fun h => h1 (of_decide_eq_true h)) (fun h => h2 (of_decide_eq_false h))
theorem vcIf.nz {n : Int} {b : Prop} (h0 : n ≠ 0) (h : b) : vcIf (ieq n 0) False b := .of (fun e => absurd ((ieq_iff _ _).1 e) h0) fun _ => h
theorem vcIf.elim {t : Bool} {a b : Prop} (h : vcIf t a b) : (t = true ∧ a) ∨ (t = false ∧ b) := by cases t with
  | true => exact .inl ⟨rfl, h⟩
  | false => exact .inr ⟨rfl, h⟩
def vcPtr (v : CV) (R : Nat → Nat → Prop) : Prop := match v with
  | .p b o => R b o
  | _ => False
theorem vcPtr_some {v : CV} {R : Nat → Nat → Prop} (h : vcPtr v R) : ∃ b o, v = .p b o ∧ R b o := by
  unfold vcPtr at h
  split at h
  · exact ⟨_, _, rfl, h⟩
  · exact h.elim
def withV {α : Type} (o : Option α) (K : α → Prop) : Prop := match o with
  | some v => K v
  | none => False
theorem withV_some {α : Type} {o : Option α} {K : α → Prop} (h : withV o K) : ∃ v, o = some v ∧ K v := by
  unfold withV at h
  split at h
  · exact ⟨_, rfl, h⟩
  · exact h.elim
section
variable (P : Program) (w0 : World) (exts : List (Nat × Ext))
def vcInt (op : BinOp) (k : IntKind) (m n : Int) (K : CV → Prop) : Prop := match op with
  | .add => ∃ r, r = k.wrap (m + n) ∧ K (.i k r)
  | .sub => ∃ r, r = k.wrap (m - n) ∧ K (.i k r)
  | .mul => ∃ r, r = k.wrap (m * n) ∧ K (.i k r)
  | .quo => vcIf (ieq n 0) False (∃ r, r = k.wrap (m.tdiv n) ∧ K (.i k r))
  | .rem => vcIf (ieq n 0) False (∃ r, r = m.tmod n ∧ K (.i k r))
  | .eql => K (.b (decide (m = n)))
  | .neq => K (.b (decide (m ≠ n)))
  | .lss => K (.b (decide (m < n)))
  | .leq => K (.b (decide (m ≤ n)))
  | .gtr => K (.b (decide (n < m)))
  | .geq => K (.b (decide (n ≤ m)))
  | _ => ∃ r, intBin op k m n = some (.i k r) ∧ K (.i k r)
theorem vcInt_ok {op : BinOp} {k : IntKind} {m n : Int} {K : CV → Prop} (h : vcInt op k m n K) : ∃ v, intBin op k m n = some v ∧ K v := by
  have hd : ∀ p q : Int, (!ilt p q) = decide (q ≤ p) := fun p q => by rw [ilt_eq, Bool.eq_iff_iff]; simp
  cases op <;> simp only [vcInt] at h
  case add => obtain ⟨r, rfl, h⟩ := h; exact ⟨_, by simp only [intBin, mkI_eq, wrapF_eq], h⟩
  case sub => obtain ⟨r, rfl, h⟩ := h; exact ⟨_, by simp only [intBin, mkI_eq, wrapF_eq], h⟩
  case mul => obtain ⟨r, rfl, h⟩ := h; exact ⟨_, by simp only [intBin, mkI_eq, wrapF_eq], h⟩
  case quo =>
    rcases vcIf.elim h with ⟨_, h⟩ | ⟨hz, r, rfl, h⟩
    · exact h.elim
    exact ⟨_, by simp only [intBin, mkI_eq, wrapF_eq, hz, cond_false], h⟩
  case rem =>
    rcases vcIf.elim h with ⟨_, h⟩ | ⟨hz, r, rfl, h⟩
    · exact h.elim
    exact ⟨_, by simp only [intBin, mkI_eq, hz, cond_false], h⟩
  case eql => exact ⟨_, rfl, by rw [ieq_eq]; exact h⟩
  case neq => exact ⟨_, rfl, by rw [ieq_eq, show (!(m == n)) = decide (m ≠ n) by rw [Bool.eq_iff_iff]; simp]; exact h⟩
  case lss => exact ⟨_, rfl, by rw [ilt_eq]; exact h⟩
  case gtr => exact ⟨_, rfl, by rw [ilt_eq]; exact h⟩
  case leq => exact ⟨_, rfl, by rw [hd]; exact h⟩
  case geq => exact ⟨_, rfl, by rw [hd]; exact h⟩
  all_goals obtain ⟨r, h1, h2⟩ := h; exact ⟨_, h1, h2⟩
def vcStr (op : BinOp) (l m : List Nat) (K : CV → Prop) : Prop := match op with
  | .add => l.length + m.length < 1099511627776 ∧ K (.s (l ++ m))
  | .eql => K (.b (decide (l = m)))
  | .neq => K (.b (decide (l ≠ m)))
  | _ => ∃ r, strBin op l m = some (.b r) ∧ K (.b r)
theorem vcStr_ok {op : BinOp} {l m : List Nat} {K : CV → Prop} (h : vcStr op l m K) : ∃ v, strBin op l m = some v ∧ K v := by
  have hd : leq l m = decide (l = m) := by rw [Bool.eq_iff_iff, leq_iff]; simp
  cases op <;> simp only [vcStr] at h
  case add =>
    have : Nat.blt (lenN l + lenN m) 1099511627776 = true := by rw [blt_iff, lenN_eq, lenN_eq]; exact h.1
    exact ⟨_, by simp only [strBin, this, cond_true], h.2⟩
  case eql => exact ⟨_, rfl, by rw [hd]; exact h⟩
  case neq => exact ⟨_, rfl, by rw [hd, show (!decide (l = m)) = decide (l ≠ m) by simp]; exact h⟩
  all_goals obtain ⟨r, h1, h2⟩ := h; exact ⟨_, h1, h2⟩
def vcBin (op : BinOp) (t : TypeId) (a b : CV) (K : CV → Prop) : Prop := match P.underlying t with
  | some (.int _) => match a, b with
    | .i k m, .i k' n => cond (isShift op) (∃ r, shiftA op k m n = some (.i k r) ∧ K (.i k r)) (cond (keq k k') (vcInt op k m n K) False)
    | _, _ => False
  | some .string => match a, b with
    | .s l, .s m => vcStr op l m K
    | _, _ => False
  | _ => ∃ r, binA P op t a b = some (.b r) ∧ K (.b r)
theorem vcBin_ok {op : BinOp} {t : TypeId} {a b : CV} {K : CV → Prop} (h : vcBin P op t a b K) : ∃ v, binA P op t a b = some v ∧ K v := by
  unfold vcBin at h
  split at h
  · split at h
    · simp only [binA]
      cases hs : isShift op with
      | true => rw [hs] at h; obtain ⟨r, h1, h2⟩ := h; exact ⟨_, h1, h2⟩
      | false =>
        rw [hs] at h
        simp only [cond_false] at h ⊢
        rename_i k m k' n
        cases hk : keq k k' with
        | true => rw [hk] at h; exact vcInt_ok h
        | false => rw [hk] at h; exact h.elim
    · exact h.elim
  · split at h
    · exact vcStr_ok h
    · exact h.elim
  · obtain ⟨r, h1, h2⟩ := h; exact ⟨_, h1, h2⟩
def fieldOff (s : TypeId) (f : Nat) : Option Nat := match P.underlying s with
  | some (.struct fs) => match fs[f]? with
    | some fd => match sizeP P fd.type with
      | some n => cond (Nat.beq n 0) none (some fd.offset)
      | none => none
    | none => none
  | _ => none
theorem fieldOff_ok {s : TypeId} {f off b o : Nat} (h : fieldOff P s f = some off) : fieldAddrA P s (.p b o) f = some (.p b (o + off)) := by
  unfold fieldOff at h
  split at h
  · rename_i fs hu
    split at h
    · rename_i fd hf
      split at h
      · rename_i n hn
        obtain ⟨h1, h2⟩ := cond_some' h
        simp only [Option.some.injEq] at h2
        subst h2
        simp only [fieldAddrA, hu, hf, hn, h1, cond_false, forceNat_eq]
      · cases h
    · cases h
  · cases h
def vcBuiltin (b : Builtin) (ty : TypeId) (tys : List TypeId) (vs : List CV) (K : CV → Prop) : Prop := match b, vs with
  | .len, _ => ∃ m : Nat, builtinV P b tys vs = some (.i .i64 (Int.ofNat m)) ∧ K (.i .i64 (Int.ofNat m))
  | .min, [.i k m, .i _ n] => K (.i k (min m n))
  | .max, [.i k m, .i _ n] => K (.i k (max m n))
  | _, _ => shaped (P.underlying ty) fun v => builtinV P b tys vs = some v ∧ K v
theorem vcBuiltin_ok {b : Builtin} {ty : TypeId} {tys : List TypeId} {vs : List CV} {K : CV → Prop} (h : vcBuiltin P b ty tys vs K) : ∃ v, builtinV P b tys vs = some v ∧ K v := by
  unfold vcBuiltin at h
  split at h
  · obtain ⟨m, h1, h2⟩ := h; exact ⟨_, h1, h2⟩
  · rename_i k m k' n
    refine ⟨_, ?_, h⟩
    simp only [builtinV, List.foldlM_cons, List.foldlM_nil, minA, ilt_eq]
    show some _ = _
    by_cases e : n < m
    · rw [decide_eq_true e, show min m n = n by omega]; rfl
    · rw [decide_eq_false e, show min m n = m by omega]; rfl
  · rename_i k m k' n
    refine ⟨_, ?_, h⟩
    simp only [builtinV, List.foldlM_cons, List.foldlM_nil, maxA, ilt_eq]
    show some _ = _
    by_cases e : m < n
    · rw [decide_eq_true e, show max m n = n by omega]; rfl
    · rw [decide_eq_false e, show max m n = m by omega]; rfl
  · obtain ⟨v, h1, h2⟩ := shaped_some h; exact ⟨v, h1, h2⟩
/-- A quiet operation. -/
def vcQ (op : Op) (ty : TypeId) (fr : T CV) (A : AW) (K : CV → Prop) : Prop := match op with
  | .move x => withV (opVal fr x) K
  | .assign x => withV (opVal fr x) K
  | .pick c a b => withV (opVal fr c) fun v => match v with
    | .b t => vcIf t (withV (opVal fr a) K) (withV (opVal fr b) K)
    | _ => False
  | .load t a => withV (opVal fr a) fun v => vcPtr v fun b o => shaped (P.underlying t) fun x => loadA P A t b o = some x ∧ K x
  | .nilCheck x => withV (opVal fr x) fun v => vcPtr v fun b o => K (.p b o)
  | .binOp op t x y _ => withV (opVal fr x) fun a => withV (opVal fr y) fun b => vcBin P op t a b K
  | .unOp op _ x => withV (opVal fr x) fun a => match op, a with
    | .not, .b x => K (.b (!x))
    | .neg, .i k m => ∃ r, r = k.wrap (0 - m) ∧ K (.i k r)
    | _, _ => shaped (P.underlying ty) fun v => unA op a = some v ∧ K v
  | .convert s d x => withV (opVal fr x) fun a => match P.underlying s, P.underlying d with
    | some (.int _), some (.int k) => match a with
      | .i _ m => ∃ r, r = k.wrap m ∧ K (.i k r)
      | _ => False
    | some .string, some .string => match a with
      | .s l => K (.s l)
      | _ => False
    | _, e => shaped e fun v => convA P A s d a = some v ∧ K v
  | .fieldAddr s x f => withV (opVal fr x) fun v => vcPtr v fun b o => withV (fieldOff P s f) fun off => K (.p b (o + off))
  | .field t x f => withV (opVal fr x) fun a => shaped (P.underlying ty) fun v => fieldA P t a f = some v ∧ K v
  | .indexAddr t x ix => withV (opVal fr x) fun a => withV (opVal fr ix) fun i => ∃ b o, indexAddrA P A t a i = some (.p b o) ∧ K (.p b o)
  | .index t x ix => withV (opVal fr x) fun a => withV (opVal fr ix) fun i => shaped (P.underlying ty) fun v => indexA P t a i = some v ∧ K v
  | .slice t x lo hi mx => withV (opVal fr x) fun a => withV (optVal fr lo) fun lo => withV (optVal fr hi) fun hi => withV (optVal fr mx) fun mx => shaped (P.underlying ty) fun v => sliceV P A t a lo hi mx = some v ∧ K v
  | .extract x i => withV (opVal fr x) fun v => match v with
    | .t vs => withV (getN vs i) K
    | _ => False
  | .build t parts => withV (partVals fr parts.toList) fun ps => ∃ cs, buildV P t ps = some (.a cs) ∧ K (.a cs)
  | .call c => match c.callee with
    | .builtin b => withV (argsA fr c.args.toList) fun vs => vcBuiltin P b ty c.argTypes.toList vs K
    | _ => False
  | _ => False
theorem wrapF_wrap (k : IntKind) (m : Int) : mkI k (wrapF k m) = .i k (k.wrap m) := by rw [mkI_eq, wrapF_eq]
theorem vcQ_ok {op : Op} {ty : TypeId} {fr : T CV} {A : AW} {K : CV → Prop} (h : vcQ P op ty fr A K) : ∃ v, evQ P op fr A = some v ∧ K v := by
  cases op <;> simp only [vcQ] at h
  case move x => exact withV_some h
  case assign x => exact withV_some h
  case pick c a b =>
    obtain ⟨v, h1, h2⟩ := withV_some h
    simp only [evQ, h1]
    split at h2
    · rcases vcIf.elim h2 with ⟨rfl, h3⟩ | ⟨rfl, h3⟩
      · exact withV_some h3
      · exact withV_some h3
    · exact h2.elim
  case load t a =>
    obtain ⟨v, h1, hp⟩ := withV_some h
    obtain ⟨b, o, rfl, h2⟩ := vcPtr_some hp
    obtain ⟨x, h3, h4⟩ := shaped_some h2
    exact ⟨x, by simp only [evQ, h1]; exact h3, h4⟩
  case nilCheck x =>
    obtain ⟨v, h1, hp⟩ := withV_some h
    obtain ⟨b, o, rfl, h2⟩ := vcPtr_some hp
    exact ⟨_, by simp only [evQ, h1], h2⟩
  case binOp op t x y yt =>
    obtain ⟨a, h1, h⟩ := withV_some h
    obtain ⟨b, h2, h⟩ := withV_some h
    obtain ⟨v, h3, h4⟩ := vcBin_ok P h
    exact ⟨v, by simp only [evQ, h1, h2]; exact h3, h4⟩
  case unOp op t x =>
    obtain ⟨a, h1, h⟩ := withV_some h
    simp only [evQ, h1]
    split at h
    · exact ⟨_, rfl, h⟩
    · obtain ⟨r, rfl, h⟩ := h; exact ⟨_, by simp only [unA, wrapF_wrap], h⟩
    · obtain ⟨v, h3, h4⟩ := shaped_some h; exact ⟨v, h3, h4⟩
  case convert s d x =>
    obtain ⟨a, h1, h⟩ := withV_some h
    simp only [evQ, h1]
    split at h
    · rename_i hs hd
      split at h
      · obtain ⟨r, rfl, h⟩ := h
        exact ⟨_, by simp only [convA, hs, hd, wrapF_wrap], h⟩
      · exact h.elim
    · rename_i hs hd
      split at h
      · exact ⟨_, by simp only [convA, hs, hd], h⟩
      · exact h.elim
    · obtain ⟨v, h3, h4⟩ := shaped_some h; exact ⟨v, h3, h4⟩
  case fieldAddr s x f =>
    obtain ⟨v, h1, hp⟩ := withV_some h
    obtain ⟨b, o, rfl, h2⟩ := vcPtr_some hp
    obtain ⟨off, h3, h4⟩ := withV_some h2
    exact ⟨_, by simp only [evQ, h1]; exact fieldOff_ok P h3, h4⟩
  case field t x f =>
    obtain ⟨a, h1, h⟩ := withV_some h
    obtain ⟨v, h3, h4⟩ := shaped_some h
    exact ⟨v, by simp only [evQ, h1]; exact h3, h4⟩
  case indexAddr t x ix =>
    obtain ⟨a, h1, h⟩ := withV_some h
    obtain ⟨i, h2, b, o, h3, h4⟩ := withV_some h
    exact ⟨_, by simp only [evQ, h1, h2]; exact h3, h4⟩
  case index t x ix =>
    obtain ⟨a, h1, h⟩ := withV_some h
    obtain ⟨i, h2, h⟩ := withV_some h
    obtain ⟨v, h3, h4⟩ := shaped_some h
    exact ⟨_, by simp only [evQ, h1, h2]; exact h3, h4⟩
  case slice t x lo hi mx =>
    obtain ⟨a, h1, h⟩ := withV_some h
    obtain ⟨l, h2, h⟩ := withV_some h
    obtain ⟨u, h3, h⟩ := withV_some h
    obtain ⟨m, h4, h⟩ := withV_some h
    obtain ⟨v, h5, h6⟩ := shaped_some h
    exact ⟨_, by simp only [evQ, h1]; exact sliceV_eq P h2 h3 h4 h5, h6⟩
  case extract x i =>
    obtain ⟨v, h1, h⟩ := withV_some h
    split at h
    · obtain ⟨u, h2, h3⟩ := withV_some h
      exact ⟨u, by simp only [evQ, h1]; exact h2, h3⟩
    · exact h.elim
  case build t parts =>
    obtain ⟨ps, h1, cs, h2, h3⟩ := withV_some h
    exact ⟨_, by simp only [evQ]; rw [buildV_eq P h1]; exact h2, h3⟩
  case call c =>
    split at h
    · rename_i b hb
      obtain ⟨vs, h1, h⟩ := withV_some h
      obtain ⟨v, h2, h3⟩ := vcBuiltin_ok P h
      exact ⟨v, by simp only [evQ, hb]; exact builtinV_eq P h1 h2, h3⟩
    · exact h.elim
/-- An operation that makes a block. -/
def vcAl (op : Op) (fr : T CV) (A : AW) (K : CV → AW → Prop) : Prop := match op with
  | .alloc e => withV (zeroA P e) fun z => K (.p A.next 0) (A.push ⟨z.cells, e, 0, 0, false, false⟩)
  | .box e x => withV (opVal fr x) fun v => K (.p A.next 0) (A.push ⟨v.cells, e, 0, 0, false, false⟩)
  | .buildSlice t len parts => match P.underlying t with
    | some (.slice e) => withV (sizeP P e) fun sz => cond (Nat.blt (len * sz) 1000000) (withV (zerosA P e len sz) fun z => withV (partVals fr parts.toList) fun ps => ∃ cs, fillV (fun i => some (i * sz, sz)) z ps = some cs ∧ K (.se A.next 0 len len) (A.push ⟨cs, e, 0, 0, false, false⟩)) False
    | _ => False
  | .makeSlice t l c => match P.underlying t with
    | some (.slice e) => withV (opVal fr l) fun lv => withV (opVal fr c) fun cv => ∃ l' c' : Nat, idxOf lv = some l' ∧ idxOf cv = some c' ∧ l' ≤ c' ∧ withV (P.info? e) fun i => c' * i.bytes < 1099511627776 ∧ c' < 1099511627776 ∧ c' * i.size < 1099511627776 ∧ ∃ z, zerosA P e c' i.size = some z ∧ K (.se A.next 0 l' c') (A.push ⟨z, e, 0, 0, false, false⟩)
    | _ => False
  | _ => False
theorem vcAl_ok {op : Op} {fr : T CV} {A : AW} {K : CV → AW → Prop} (h : vcAl P op fr A K) : ∃ ob mk, evAl P op fr = some (ob, mk) ∧ K (mk A.next) (A.push ob) := by
  cases op <;> simp only [vcAl] at h
  case alloc e =>
    obtain ⟨z, h1, h2⟩ := withV_some h
    exact ⟨_, fun n => .p n 0, by simp only [evAl, h1], h2⟩
  case box e x =>
    obtain ⟨v, h1, h2⟩ := withV_some h
    exact ⟨_, fun n => .p n 0, by simp only [evAl, h1], h2⟩
  case buildSlice t len parts =>
    split at h
    · rename_i e hu
      obtain ⟨sz, h1, h⟩ := withV_some h
      have h0 : Nat.blt (len * sz) 1000000 = true := by
        cases h0 : Nat.blt (len * sz) 1000000 with
        | true => rfl
        | false => rw [h0] at h; exact h.elim
      rw [h0, cond_true] at h
      obtain ⟨z, h2, h⟩ := withV_some h
      obtain ⟨ps, h3, cs, h4, h5⟩ := withV_some h
      refine ⟨_, fun n => .se n 0 len len, ?_, h5⟩
      simp only [evAl, hu, h1, h0, cond_true, h2]
      rw [fillV_eq h3, h4]
    · exact h.elim
  case makeSlice t l c =>
    split at h
    · rename_i e hu
      obtain ⟨lv, h1, h⟩ := withV_some h
      obtain ⟨cv, h2, l', c', h3, h4, h5, h⟩ := withV_some h
      obtain ⟨i, h6, h7, h8, h9, z, h10, h11⟩ := withV_some h
      refine ⟨_, fun n => .se n 0 l' c', ?_, h11⟩
      have b1 : Nat.ble l' c' = true := by rw [Nat.ble_eq]; exact h5
      have b2 := (blt_iff _ _).2 h7
      have b3 := (blt_iff _ _).2 h8
      have b4 := (blt_iff _ _).2 h9
      simp only [evAl, hu, h1, h2, h3, h4, h6, b1, b2, b3, b4, Bool.and_self, cond_true, h10]
    · exact h.elim
/-- The form of a call's result. -/
def shapedL : List TypeId → (List CV → Prop) → Prop
  | [], R => R []
  | t :: ts, R => shaped (P.underlying t) fun v => shapedL ts fun vs => R (v :: vs)
theorem shapedL_some : ∀ {ts : List TypeId} {R : List CV → Prop}, shapedL P ts R → ∃ vs, R vs
  | [], _, h => ⟨[], h⟩
  | t :: ts, R, h => by
    obtain ⟨v, h⟩ := shaped_some h
    obtain ⟨vs, h⟩ := shapedL_some h
    exact ⟨_, h⟩
def callShape (f : Nat) (R : CV → Prop) : Prop := match P.funcs[f]? with
  | some fn => shapedL P fn.resultTypes.toList fun vs => R (tupA vs)
  | none => False
theorem callShape_some {f : Nat} {R : CV → Prop} (h : callShape P f R) : ∃ v, R v := by
  unfold callShape at h
  split at h
  · obtain ⟨vs, h⟩ := shapedL_some P h; exact ⟨_, h⟩
  · exact h.elim
/-- An operation that may turn the world. -/
def vcW (op : Op) (fr : T CV) (A : AW) (K : CV → AW → Prop) : Prop := match op with
  | .store t a v => withV (opVal fr a) fun p => withV (opVal fr v) fun x => vcPtr p fun b off => ∃ A', storeA P A t b off x = some A' ∧ K (.t []) A'
  | .convert s d x => withV (opVal fr x) fun a => ∃ v A', s2bA P A s d a = some (v, A') ∧ K v A'
  | .call c => match c.callee with
    | .builtin .append => match c.argTypes.toList, c.args.toList with
      | t :: u :: _, [s, x] => withV (opVal fr s) fun s => withV (opVal fr x) fun x => ∃ v A', appendA P A t u s x = some (v, A') ∧ K v A'
      | _, _ => False
    | .builtin .unsafeString => match c.args.toList with
      | [p, n] => withV (opVal fr p) fun p => withV (opVal fr n) fun n => ∃ l A', usA P A c.argTypes.toList p n = some (.s l, A') ∧ K (.s l) A'
      | _ => False
    | .value (.func f) => withV (argsA fr c.args.toList) fun vs => match extOf exts f with
      | some e => ∃ v, extA e vs = some v ∧ K v A
      | none => F P w0 f vs A fun v A' => callShape P f fun u => v = u ∧ K u A'
    | _ => False
  | _ => False
theorem vcW_ok {o : Oper} {fr : T CV} {A : AW} {K : CV → AW → Prop} (h : vcW P w0 exts o.op fr A K) : ∃ ih v A', CallOK P w0 ih ∧ evW P exts ih o fr A = some (v, A') ∧ K (v.getD (.t [])) A' := by
  obtain ⟨dst, op, ty, pos, after, guard⟩ := o
  simp only at h
  cases op <;> simp only [vcW] at h
  case store t a v =>
    obtain ⟨p, h1, h⟩ := withV_some h
    obtain ⟨x, h2, hp⟩ := withV_some h
    obtain ⟨b, off, rfl, A', h3, h4⟩ := vcPtr_some hp
    exact ⟨_, none, A', none_ok, by simp only [evW, h1, h2, h3], h4⟩
  case convert s d x =>
    obtain ⟨a, h1, v, A', h2, h3⟩ := withV_some h
    exact ⟨_, some v, A', none_ok, by simp only [evW, h1, h2], h3⟩
  case call c =>
    obtain ⟨callee, args, argTypes⟩ := c
    simp only at h
    split at h
    · split at h
      · rename_i t u tys s x ht ha
        obtain ⟨s', h1, h⟩ := withV_some h
        obtain ⟨x', h2, v, A', h3, h4⟩ := withV_some h
        exact ⟨_, some v, A', none_ok, by simp only [evW, ht, ha, h1, h2, h3], h4⟩
      · exact h.elim
    · split at h
      · rename_i p n ha
        obtain ⟨p', h1, h⟩ := withV_some h
        obtain ⟨n', h2, l, A', h3, h4⟩ := withV_some h
        exact ⟨_, some (.s l), A', none_ok, by simp only [evW, ha, h1, h2, h3], h4⟩
      · exact h.elim
    · rename_i f
      obtain ⟨vs, h1, h⟩ := withV_some h
      split at h
      · rename_i e he
        obtain ⟨v, h2, h3⟩ := h
        exact ⟨_, some v, A, none_ok, by simp only [evW, h1, he, h2], h3⟩
      · rename_i he
        obtain ⟨v, A', h2, h3⟩ := h
        obtain ⟨u, rfl, h4⟩ := callShape_some P h3
        exact ⟨ihOne f vs A v A', some v, A', ihOne_ok h2, by simp only [evW, h1, he, ihOne_self], h4⟩
    · exact h.elim
/-- An operation. -/
def vcOp (o : Oper) (fr : T CV) (A : AW) (K : CV → AW → Prop) : Prop := match kind P o.op with
  | .q => vcQ P o.op o.type fr A fun v => K v A
  | .al => vcAl P o.op fr A K
  | .w => vcW P w0 exts o.op fr A K
def vcPut (n : Nat) (d : Option Nat) (v : CV) (fr : T CV) (K : T CV → Prop) : Prop := withV (putD n fr d v) K
theorem vcOp_ok {n : Nat} {o : Oper} {fr : T CV} {A : AW} {K : T CV → AW → Prop} (h : vcOp P w0 exts o fr A fun v A' => vcPut n o.dst v fr fun fr' => K fr' A') : ∃ ih fr' A', CallOK P w0 ih ∧ evOp P exts ih n o ⟨fr, A⟩ = some ⟨fr', A'⟩ ∧ K fr' A' := by
  unfold vcOp at h
  unfold evOp
  split at h
  · rename_i hk
    obtain ⟨v, h1, h2⟩ := vcQ_ok P h
    obtain ⟨fr', h3, h4⟩ := withV_some h2
    exact ⟨_, fr', A, none_ok, by simp only [hk, doQ, h1, h3], h4⟩
  · rename_i hk
    obtain ⟨ob, mk, h1, h2⟩ := vcAl_ok P h
    obtain ⟨fr', h3, h4⟩ := withV_some h2
    exact ⟨_, fr', A.push ob, none_ok, by simp only [hk, doAl, h1, AW.new_push, h3], h4⟩
  · rename_i hk
    obtain ⟨ih, v, A', h0, h1, h2⟩ := vcW_ok P w0 exts h
    obtain ⟨fr', h3, h4⟩ := withV_some h2
    exact ⟨ih, fr', A', h0, by simp only [hk, doW, h1, h3], h4⟩
end
end Go.Ce
