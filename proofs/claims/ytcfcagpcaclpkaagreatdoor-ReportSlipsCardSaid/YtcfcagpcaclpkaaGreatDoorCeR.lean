/-
  A CLOSED EVALUATOR FOR THE MODEL: a region that draws its order: one order stands for all. Conditions: the functions without a body are what the list says.
-/
import Derived.Test.YtcfcagpcaclpkaaGreatDoorCeQ
namespace Go.Ce
open Go Go.RowKit

/-- A quiet operation of the plan that has not come yet in the world. -/
structure Pend (P : Program) (ops : Array Oper) (n : Nat) (ρ : Env) (A0 : AW) (st : St) (o : Oper) : Prop where
  dst : ∀ t, o.dst = some t → t < n
  rest : (wantedA ops.toList st.fr o = some false ∧ ∀ t, o.dst = some t → st.fr.get t = some (.t [])) ∨
    (wantedA ops.toList st.fr o = some true ∧ isAl o.op = false ∧ ∃ v, evQ P o.op st.fr st.A = some v ∧ ∀ t, o.dst = some t → st.fr.get t = some v) ∨
    (wantedA ops.toList st.fr o = some true ∧ ∃ e z t id, o.op = .alloc e ∧ o.dst = some t ∧ zeroA P e = some z ∧ st.fr.get t = some (.p id 0) ∧ st.A.heap.get id = some ⟨z.cells, e, 0, 0, false, false⟩ ∧ ρ id = none ∧ A0.next ≤ id ∧ id < st.A.next)
def un (listed : Array Bool) (d : Nat) : Prop := listed.getD d false = false
structure Inv (P : Program) (w0 : World) (ops : Array Oper) (n : Nat) (ρ0 : Env) (A0 : AW) (pre : List Nat) (listed : Array Bool) (st : St) (ρ : Env) (a : Act) (w : World) : Prop where
  defers : a.defers = []
  size : a.tmps.size = n
  lim : n < 1000000
  lsize : listed.size = ops.size
  closed : Closed ops listed
  sub : ∀ j, listed.getD j false = true → j ∈ pre
  wdone : ∀ d ∈ pre, ∀ o, ops[d]? = some o → isW P o = true → listed.getD d false = true
  built : Built P ops pre
  wr : WR w0 ρ st.A w
  good : Good ρ0 A0 ρ st.A
  fr : ∀ t v, st.fr.get t = some v → (∃ d ∈ pre, un listed d ∧ ∃ o, ops[d]? = some o ∧ o.dst = some t) ∨ ∃ x, conc ρ v = some x ∧ a.tmps[t]? = some x
  pend : ∀ d ∈ pre, un listed d → ∀ o, ops[d]? = some o → Pend P ops n ρ A0 st o
  diff : ∀ d ∈ pre, ∀ d' ∈ pre, un listed d → un listed d' → d ≠ d' → ∀ o o' t t' id id', ops[d]? = some o → ops[d']? = some o' → o.dst = some t → o'.dst = some t' → st.fr.get t = some (.p id 0) → st.fr.get t' = some (.p id' 0) → isAl o.op = true → isAl o'.op = true → id ≠ id'
theorem getD_true_lt {l : Array Bool} {i : Nat} (h : l.getD i false = true) : i < l.size := by
  apply Nat.lt_of_not_le
  intro hle
  simp [Array.getD_eq_getD_getElem?, Array.getElem?_eq_none hle] at h
theorem getD_flip {l : Array Bool} {i : Nat} (h : i < l.size) : l.getD i true = l.getD i false := by simp [h]
section
variable {P : Program} {w0 : World} {ops : Array Oper} {n : Nat} {ρ0 : Env} {A0 : AW} {pre : List Nat} {listed : Array Bool} {st : St} {ρ : Env} {a : Act} {w : World}
theorem built_pair (h : Built P ops pre) : ∀ d ∈ pre, ∀ d' ∈ pre, d ≠ d' → ∀ o o', ops[d]? = some o → ops[d']? = some o' →
    (isW P o' = true ∨ fits P ops.toList o' o (mem d' ((getN (ancs ops.toList) d).getD [])) = true) ∨ (isW P o = true ∨ fits P ops.toList o o' (mem d ((getN (ancs ops.toList) d').getD [])) = true) := by
  induction h with
  | nil => intro d hd; cases hd
  | cons hb ho hm ih =>
    rename_i pre i oi
    have hM := may_of hm
    intro d hd d' hd' hne o o' hod hod'
    rcases List.mem_cons.1 hd with rfl | hd1 <;> rcases List.mem_cons.1 hd' with rfl | hd1'
    · exact absurd rfl hne
    · rw [ho] at hod
      simp only [Option.some.injEq] at hod
      subst hod
      exact .inl (hM.fit d' hd1' o' hod')
    · rw [ho] at hod'
      simp only [Option.some.injEq] at hod'
      subst hod'
      exact .inr (hM.fit d hd1 o hod)
    · exact ih d hd1 d' hd1' hne o o' hod hod'
theorem built_own (h : Built P ops pre) : ∀ d ∈ pre, ∀ o, ops[d]? = some o → isW P o = true ∨ memO o.dst (looks ops.toList o) = false := by
  induction h with
  | nil => intro d hd; cases hd
  | cons hb ho hm ih =>
    have hM := may_of hm
    intro d hd o hod
    rcases List.mem_cons.1 hd with rfl | hd1
    · rw [ho] at hod
      simp only [Option.some.injEq] at hod
      subst hod
      exact hM.own
    · exact ih d hd1 o hod
theorem fits_reads {x o : Oper} {anc : Bool} (h : fits P ops.toList x o anc = true) {t : Nat} (hx : x.dst = some t) (ht : t ∈ looks ops.toList o) : anc = true := by
  unfold fits at h
  rw [Bool.and_eq_true] at h
  have h1 := h.1
  rw [hx, memO_some.2 ht] at h1
  simpa using h1
theorem fits_writes {x o : Oper} {anc : Bool} (h : fits P ops.toList x o anc = true) {t : Nat} (hx : o.dst = some t) (ht : t ∈ looks ops.toList x ∨ x.dst = some t) : isW P o = true ∧ anc = true := by
  unfold fits at h
  rw [Bool.and_eq_true] at h
  have h2 := h.2
  rw [Bool.or_eq_true] at h2
  rcases h2 with h2 | h2
  · rw [Bool.and_eq_true] at h2
    rcases ht with ht | ht
    · rw [hx, memO_some.2 ht] at h2; cases h2.1
    · rw [hx, ht] at h2
      have : eqO (some t) (some t) = true := (beqN_iff _ _).2 rfl
      rw [this] at h2
      cases h2.2
  · simpa using h2
theorem Inv.notW (hI : Inv P w0 ops n ρ0 A0 pre listed st ρ a w) {d : Nat} (hd : d ∈ pre) (hu : un listed d) {o : Oper} (ho : ops[d]? = some o) : isW P o = false := by
  cases hw : isW P o with
  | false => rfl
  | true => have := hI.wdone d hd o ho hw; rw [hu] at this; cases this
/-- What a ready operation of the plan reads is there in the world. -/
theorem Inv.reads (hI : Inv P w0 ops n ρ0 A0 pre listed st ρ a w) {d : Nat} (hd : d ∈ pre) (hu : un listed d) {o : Oper} (ho : ops[d]? = some o) (hr : ∀ x ∈ waits o, listed.getD x false = true)
    {t : Nat} {v : CV} (ht : t ∈ looks ops.toList o) (hv : st.fr.get t = some v) : ∃ x, conc ρ v = some x ∧ a.tmps[t]? = some x := by
  rcases hI.fr t v hv with ⟨d', hd', hu', o', ho', hdst⟩ | h
  · exfalso
    have hW := hI.notW hd hu ho
    have hW' := hI.notW hd' hu' ho'
    by_cases e : d = d'
    · subst e
      rw [ho] at ho'
      simp only [Option.some.injEq] at ho'
      subst ho'
      rcases built_own hI.built d hd o ho with h | h
      · rw [hW] at h; cases h
      · rw [hdst, memO_some.2 ht] at h; cases h
    · rcases built_pair hI.built d hd d' hd' e o o' ho ho' with (h | h) | (h | h)
      · rw [hW'] at h; cases h
      · have := ancs_listed hI.closed ho hr (fits_reads h hdst ht)
        rw [hu'] at this; cases this
      · rw [hW] at h; cases h
      · have := (fits_writes h hdst (.inl ht)).1
        rw [hW'] at this; cases this
  · exact h
/-- What a writer that comes next reads is there in the world. -/
theorem Inv.readsW (hI : Inv P w0 ops n ρ0 A0 pre listed st ρ a w) {k : Nat} {o : Oper} (ho : ops[k]? = some o) (hM : May P ops pre k o) (hr : ∀ x ∈ waits o, listed.getD x false = true)
    {t : Nat} {v : CV} (ht : t ∈ looks ops.toList o) (hv : st.fr.get t = some v) : ∃ x, conc ρ v = some x ∧ a.tmps[t]? = some x := by
  rcases hI.fr t v hv with ⟨d', hd', hu', o', ho', hdst⟩ | h
  · exfalso
    rcases hM.fit d' hd' o' ho' with h | h
    · rw [hI.notW hd' hu' ho'] at h; cases h
    · have := ancs_listed hI.closed ho hr (fits_reads h hdst ht)
      rw [hu'] at this; cases this
  · exact h
theorem ok_reads {o : Oper} (h : ∀ t v, t ∈ looks ops.toList o → st.fr.get t = some v → ∃ x, conc ρ v = some x ∧ a.tmps[t]? = some x) : ∀ x ∈ o.op.operands, OK ρ st.fr a x :=
  fun x hx => ok_of fun t v e hv => h t v (looks_op (e ▸ hx)) hv
theorem wanted_reads {o : Oper} {b : Bool} (hw : wantedA ops.toList st.fr o = some b) (h : ∀ t v, t ∈ looks ops.toList o → st.fr.get t = some v → ∃ x, conc ρ v = some x ∧ a.tmps[t]? = some x) : Region.wanted o (yielded ops a.tmps) = b :=
  wantedA_run' hw fun j want g t v h1 h2 h3 h4 => h t v (looks_guard h1 (by rw [getN_eq, Array.getElem?_toList]; exact h2) h3) h4

/-! ### The plan goes on by a quiet operation -/
theorem putD_some {fr fr' : T CV} {d : Option Nat} {v : CV} (h : putD n fr d v = some fr') : (∀ t, d = some t → t < n) ∧ (n < 1000000 → (∀ t, d = some t → fr'.get t = some v)) ∧ ∀ t, d ≠ some t → fr'.get t = fr.get t := by
  unfold putD at h
  cases d with
  | none => simp only [Option.some.injEq] at h; subst h; exact ⟨by simp, by simp, fun _ _ => rfl⟩
  | some t =>
    obtain ⟨h1, h2⟩ := cond_some h
    rw [blt_iff] at h1
    simp only [Option.some.injEq] at h2
    subst h2
    refine ⟨fun u hu => ?_, fun hl u hu => ?_, fun u hu => T.get_up_other _ _ (fun e => hu (by rw [e]))⟩
    · injection hu with hu; subst hu; exact h1
    · injection hu with hu; subst hu; exact T.get_up_same _ _ _
/-- An earlier operation that is still to come does not see what a later quiet one yields. -/
theorem Inv.unseen (hI : Inv P w0 ops n ρ0 A0 pre listed st ρ a w) {i : Nat} {o : Oper} (hM : May P ops pre i o) (hW : isW P o = false) {d : Nat} (hd : d ∈ pre) (hu : un listed d) {x : Oper} (hx : ops[d]? = some x) {t : Nat} (ht : t ∈ looks ops.toList x ∨ x.dst = some t) : o.dst ≠ some t := by
  intro e
  rcases hM.fit d hd x hx with h | h
  · rw [hI.notW hd hu hx] at h; cases h
  · have := (fits_writes h e ht).1
    rw [hW] at this; cases this
theorem same_get {fr fr' : T CV} {ol : List Oper} {x : Oper} (h : ∀ t, t ∈ looks ol x → fr'.get t = fr.get t) {A : AW} : evQ P x.op fr' A = evQ P x.op fr A ∧ wantedA ol fr' x = wantedA ol fr x :=
  ⟨evQ_same fun t ht => h t (looks_op ht), wantedA_same fun _ _ _ t h1 h2 h3 => h t (looks_guard h1 h2 h3)⟩
theorem Inv.unlisted (hI : Inv P w0 ops n ρ0 A0 pre listed st ρ a w) {i : Nat} (hi : i ∉ pre) : un listed i := by
  unfold un
  cases h : listed.getD i false with
  | false => rfl
  | true => exact absurd (hI.sub i h) hi
/-- What the frame says when the plan goes on by a quiet operation: the memory as it was. -/
theorem Inv.next (hI : Inv P w0 ops n ρ0 A0 pre listed st ρ a w) {i : Nat} {o : Oper} (ho : ops[i]? = some o) (hm : mayNext P ops.toList (ancs ops.toList) pre i o = true) (hW : isW P o = false) {st' : St} {v : CV} (hp : putD n st.fr o.dst v = some st'.fr)
    (hwr : WR w0 ρ st'.A w) (hgood : Good ρ0 A0 ρ st'.A) (hnew : Pend P ops n ρ A0 st' o) (hold : ∀ d ∈ pre, un listed d → ∀ x, ops[d]? = some x → Pend P ops n ρ A0 st' x)
    (hid : isAl o.op = true → ∀ t id, o.dst = some t → st'.fr.get t = some (.p id 0) → st.A.next ≤ id) : Inv P w0 ops n ρ0 A0 (i :: pre) listed st' ρ a w := by
  have hM := may_of hm
  obtain ⟨p1, p2, p3⟩ := putD_some hp
  have hui := hI.unlisted hM.new
  have hsame : ∀ d ∈ pre, un listed d → ∀ x, ops[d]? = some x → ∀ t, x.dst = some t → st'.fr.get t = st.fr.get t := fun d hd hu x hx t ht => p3 t (hI.unseen hM hW hd hu hx (.inr ht))
  refine ⟨hI.defers, hI.size, hI.lim, hI.lsize, hI.closed, fun j hj => List.mem_cons_of_mem _ (hI.sub j hj), fun d hd x hx hw => ?_, .cons hI.built ho hm, hwr, hgood, fun t c hc => ?_, fun d hd hu x hx => ?_, fun d hd d' hd' hu hu' hne x x' t t' id id' hx hx' ht ht' hg hg' ha ha' => ?_⟩
  · rcases List.mem_cons.1 hd with rfl | hd
    · rw [ho] at hx
      simp only [Option.some.injEq] at hx
      subst hx
      rw [hW] at hw; cases hw
    · exact hI.wdone d hd x hx hw
  · by_cases e : o.dst = some t
    · exact .inl ⟨i, by simp, hui, o, ho, e⟩
    · rw [p3 t e] at hc
      rcases hI.fr t c hc with ⟨d, hd, hu, x, hx, hxd⟩ | h
      · exact .inl ⟨d, by simp [hd], hu, x, hx, hxd⟩
      · exact .inr h
  · rcases List.mem_cons.1 hd with rfl | hd
    · rw [ho] at hx
      simp only [Option.some.injEq] at hx
      subst hx
      exact hnew
    · exact hold d hd hu x hx
  · have key : ∀ d ∈ pre, un listed d → ∀ x t id, ops[d]? = some x → x.dst = some t → st'.fr.get t = some (.p id 0) → isAl x.op = true → id < st.A.next := by
      intro d hd hu x t id hx ht hg ha
      rw [hsame d hd hu x hx t ht] at hg
      rcases (hI.pend d hd hu x hx).rest with ⟨_, h⟩ | ⟨_, h, _⟩ | ⟨_, e, z, t2, id2, _, h2, _, h3, _, _, _, h4⟩
      · rw [h t ht] at hg; cases hg
      · rw [ha] at h; cases h
      · rw [ht] at h2
        injection h2 with h2
        subst h2
        rw [hg] at h3
        injection h3 with h3
        injection h3 with h3
        omega
    rcases List.mem_cons.1 hd with e1 | hd1 <;> rcases List.mem_cons.1 hd' with e2 | hd2
    · omega
    · subst e1
      rw [ho] at hx
      simp only [Option.some.injEq] at hx
      subst hx
      have := hid ha t id ht hg
      have := key d' hd2 hu' x' t' id' hx' ht' hg' ha'
      omega
    · subst e2
      rw [ho] at hx'
      simp only [Option.some.injEq] at hx'
      subst hx'
      have := hid ha' t' id' ht' hg'
      have := key d hd1 hu x t id hx ht hg ha
      omega
    · rw [hsame d hd1 hu x hx t ht] at hg
      rw [hsame d' hd2 hu' x' hx' t' ht'] at hg'
      exact hI.diff d hd1 d' hd2 hu hu' hne x x' t t' id id' hx hx' ht ht' hg hg' ha ha'
/-- An earlier one that is still to come, when the memory is as it was. -/
theorem Inv.oldPend (hI : Inv P w0 ops n ρ0 A0 pre listed st ρ a w) {i : Nat} {o : Oper} (hm : mayNext P ops.toList (ancs ops.toList) pre i o = true) (hW : isW P o = false) {st' : St} {v : CV} (hp : putD n st.fr o.dst v = some st'.fr) (hA : st'.A = st.A) :
    ∀ d ∈ pre, un listed d → ∀ x, ops[d]? = some x → Pend P ops n ρ A0 st' x := by
  have hM := may_of hm
  obtain ⟨p1, p2, p3⟩ := putD_some hp
  intro d hd hu x hx
  have hP := hI.pend d hd hu x hx
  have hs := same_get (P := P) (x := x) (ol := ops.toList) (A := st.A) (fun t ht => p3 t (hI.unseen hM hW hd hu hx (.inl ht)))
  have hd' : ∀ t, x.dst = some t → st'.fr.get t = st.fr.get t := fun t ht => p3 t (hI.unseen hM hW hd hu hx (.inr ht))
  refine ⟨hP.dst, ?_⟩
  rw [hs.2, hA]
  rcases hP.rest with ⟨h1, h2⟩ | ⟨h1, h2, v, h3, h4⟩ | ⟨h1, e, z, t, id, h2, h3, h4, h5, h6⟩
  · exact .inl ⟨h1, fun t ht => by rw [hd' t ht]; exact h2 t ht⟩
  · exact .inr (.inl ⟨h1, h2, v, by rw [hs.1]; exact h3, fun t ht => by rw [hd' t ht]; exact h4 t ht⟩)
  · exact .inr (.inr ⟨h1, e, z, t, id, h2, h3, h4, by rw [hd' t h3]; exact h5, h6⟩)
theorem Inv.stepN (hI : Inv P w0 ops n ρ0 A0 pre listed st ρ a w) {i : Nat} {o : Oper} (ho : ops[i]? = some o) (hm : mayNext P ops.toList (ancs ops.toList) pre i o = true) (hW : isW P o = false) (hw : wantedA ops.toList st.fr o = some false) {st' : St} (h : doN n o st = some st') :
    Inv P w0 ops n ρ0 A0 (i :: pre) listed st' ρ a w := by
  have hM := may_of hm
  unfold doN at h
  split at h
  · rename_i fr hp
    simp only [Option.some.injEq] at h
    subst h
    obtain ⟨p1, p2, p3⟩ := putD_some hp
    have hown : ∀ t, t ∈ looks ops.toList o → o.dst ≠ some t := by
      intro t ht e
      rcases hM.own with h | h
      · rw [hW] at h; cases h
      · rw [e, memO_some.2 ht] at h; cases h
    have hs := same_get (P := P) (x := o) (ol := ops.toList) (fr := st.fr) (fr' := fr) (A := st.A) (fun t ht => p3 t (hown t ht))
    refine hI.next ho hm hW (st' := ⟨fr, st.A⟩) hp hI.wr hI.good ⟨p1, .inl ⟨by rw [hs.2]; exact hw, p2 hI.lim⟩⟩ (hI.oldPend hm hW (st' := ⟨fr, st.A⟩) hp rfl) (fun _ t id ht hg => ?_)
    rw [p2 hI.lim t ht] at hg
    cases hg
  · cases h
theorem Inv.stepQ (hI : Inv P w0 ops n ρ0 A0 pre listed st ρ a w) {i : Nat} {o : Oper} (ho : ops[i]? = some o) (hm : mayNext P ops.toList (ancs ops.toList) pre i o = true) (hW : isW P o = false) (hal : isAl o.op = false) (hw : wantedA ops.toList st.fr o = some true) {st' : St} (h : doQ P n o st = some st') :
    Inv P w0 ops n ρ0 A0 (i :: pre) listed st' ρ a w := by
  have hM := may_of hm
  unfold doQ at h
  split at h
  · rename_i v hv
    split at h
    · rename_i fr hp
      simp only [Option.some.injEq] at h
      subst h
      obtain ⟨p1, p2, p3⟩ := putD_some hp
      have hown : ∀ t, t ∈ looks ops.toList o → o.dst ≠ some t := by
        intro t ht e
        rcases hM.own with h | h
        · rw [hW] at h; cases h
        · rw [e, memO_some.2 ht] at h; cases h
      have hs := same_get (P := P) (x := o) (ol := ops.toList) (fr := st.fr) (fr' := fr) (A := st.A) (fun t ht => p3 t (hown t ht))
      refine hI.next ho hm hW (st' := ⟨fr, st.A⟩) hp hI.wr hI.good ⟨p1, .inr (.inl ⟨by rw [hs.2]; exact hw, hal, v, by rw [hs.1]; exact hv, p2 hI.lim⟩)⟩ (hI.oldPend hm hW (st' := ⟨fr, st.A⟩) hp rfl) (fun h => by rw [hal] at h; cases h)
    · cases h
  · cases h
end
end Go.Ce
