/-
  A CLOSED EVALUATOR FOR THE MODEL: A REGION THAT DRAWS ITS ORDER, WHOLE. Conditions: the functions without a body are what the list says.
-/
import Derived.Test.YtcfcagpcaclpkaaGreatDoorCeS
namespace Go.Ce
open Go Go.RowKit

section
variable {P : Program} {w0 : World} {ops : Array Oper} {n : Nat} {ρ0 : Env} {A0 : AW} {pre : List Nat} {listed : Array Bool} {st : St} {ρ : Env} {a : Act} {w : World} {exts : List (Nat × Ext)} {ih : Task → Option Res}
/-- One operation, of which the operands alone are known to be there. -/
theorem evOp_core {st' : St} (hE : ExtOK P exts) (hN : NumOK P) (hC : CallOK P w0 ih) (hw : WR w0 ρ st.A w) {o : Oper} (hok : ∀ x ∈ o.op.operands, OK ρ st.fr a x) (h : evOp P exts ih n o st = some st')
    {K : Act → World → Prop} {Q : Exit → Act → World → Prop} (hK : ∀ z w' ρ' v, WR w0 ρ' st'.A w' → Good ρ st.A ρ' st'.A → conc ρ' v = some z → putD n st.fr o.dst v = some st'.fr → K (a.put o.dst z) w') : o.wp P a w K Q := by
  unfold evOp at h
  split at h
  · unfold doQ at h
    split at h
    · rename_i v hv
      split at h
      · rename_i fr hp
        simp only [Option.some.injEq] at h
        subst h
        obtain ⟨z, e1, e2⟩ := evQ_run (a := a) hw hv hok
        unfold Oper.wp
        rw [e2]
        exact hK z w ρ v hw (Good.refl _ _) e1 hp
      · cases h
    · cases h
  · unfold doAl at h
    split at h
    · rename_i ob mk hal
      split at h
      · rename_i A' hA
        split at h
        · rename_i fr hp
          simp only [Option.some.injEq] at h
          subst h
          obtain ⟨C, X, e1, e2, e3, e4, e5, e6⟩ := evAl_run (a := a) hal hok
          obtain ⟨v1, v2, v3, v4⟩ := hw.virt hA
          obtain ⟨r1, r2⟩ := v1.real v3 v4 (C := C) (f := (0, 0)) (cap := 0) (esz := 0) (w.alloc (.cells C ob.el)) rfl rfl rfl rfl
            (fun j v hj => by
              obtain ⟨x, g1, g2⟩ := concL_get e2 j v hj
              exact ⟨x, g1, by simpa using g2⟩) (.inl rfl) e3.symm (by simp)
          have hz := e6 st.A.next w.heap.size (ρ.set st.A.next ⟨w.heap.size, 0, 0, 0⟩) (Env.set_same _ _ _)
          unfold Oper.wp
          rw [e1 w]
          exact hK _ _ _ _ r1 ⟨fun b hb => Env.set_other _ _ (by omega), v2.next, v2.keep⟩ hz hp
        · cases h
      · cases h
    · cases h
  · unfold doW at h
    split at h
    · rename_i v A' hv
      split at h
      · rename_i fr hp
        simp only [Option.some.injEq] at h
        subst h
        exact evW_run (a := a) hE hN hC hw hv hok fun z w' ρ' h1 h2 h3 => hK z w' ρ' _ h1 h2 h3 hp
      · cases h
    · cases h
/-- Behind a writer. -/
theorem Inv.write (hI : Inv P w0 ops n ρ0 A0 pre listed st ρ a w) {k : Nat} {o : Oper} (ho : ops[k]? = some o) (hm : mayNext P ops.toList (ancs ops.toList) pre k o = true) (hr : ∀ x ∈ waits o, listed.getD x false = true)
    {st' : St} {v : CV} {z : Value} {ρ' : Env} {w' : World} (hwr : WR w0 ρ' st'.A w') (hG : Good ρ st.A ρ' st'.A) (hz : conc ρ' v = some z) (hp : putD n st.fr o.dst v = some st'.fr)
    (hs : still P ops.toList st' (again P ops.toList (ancs ops.toList) pre k o) = true) : Inv P w0 ops n ρ0 A0 (k :: pre) (listed.setIfInBounds k true) st' ρ' (a.put o.dst z) w' := by
  have hM := may_of hm
  have hkl : k < listed.size := by rw [hI.lsize]; exact (Array.getElem?_eq_some_iff.1 ho).1
  obtain ⟨p1, p2, p3⟩ := putD_some hp
  have hpg := fun t => put_get (a := a) (d := o.dst) (z := z) t (fun u hu => by rw [hI.size]; exact p1 u hu)
  have hunseen : ∀ d ∈ pre, un listed d → ∀ x, ops[d]? = some x → ∀ t, x.dst = some t → o.dst ≠ some t := by
    intro d hd hu x hx t ht e
    rcases hM.fit d hd x hx with h | h
    · rw [hI.notW hd hu hx] at h; cases h
    · have := (fits_writes h e (.inr ht)).2
      have := ancs_listed hI.closed ho hr this
      rw [hu] at this; cases this
  have hpre : ∀ d, d ∈ k :: pre → un (listed.setIfInBounds k true) d → d ∈ pre ∧ un listed d := by
    intro d hd hu
    rw [un_set hkl] at hu
    rcases List.mem_cons.1 hd with rfl | hd
    · exact absurd rfl hu.1
    · exact ⟨hd, hu.2⟩
  refine ⟨by rw [put_defs]; exact hI.defers, by rw [put_size]; exact hI.size, hI.lim, by simp [hI.lsize], hI.closed.set ho hkl hr, fun j hj => ?_, fun d hd x hx hw => ?_, .cons hI.built ho hm, hwr, hI.good.trans hG, fun t c hc => ?_, fun d hd hu x hx => ?_, fun d hd d' hd' hu hu' hne x x' t t' id id' hx hx' ht ht' hg hg' ha ha' => ?_⟩
  · rw [getD_set hkl] at hj
    by_cases e : j = k
    · simp [e]
    · rw [if_neg e] at hj; exact List.mem_cons_of_mem _ (hI.sub j hj)
  · rw [getD_set hkl]
    by_cases e : d = k
    · rw [if_pos e]
    · rw [if_neg e]
      rcases List.mem_cons.1 hd with h | h
      · exact absurd h e
      · exact hI.wdone d h x hx hw
  · by_cases e : o.dst = some t
    · rw [p2 hI.lim t e] at hc
      injection hc with hc
      subst hc
      exact .inr ⟨z, hz, (hpg t).1 e⟩
    · rw [p3 t e] at hc
      rcases hI.fr t c hc with ⟨d, hd, hu, x, hx, hxd⟩ | ⟨x, h1, h2⟩
      · exact .inl ⟨d, by simp [hd], (un_set hkl).2 ⟨fun e => hM.new (e ▸ hd), hu⟩, x, hx, hxd⟩
      · exact .inr ⟨x, conc_mono (hG.le hI.wr) c x h1, by rw [(hpg t).2 e]; exact h2⟩
  · obtain ⟨hd, hu⟩ := hpre d hd hu
    have hWx := hI.notW hd hu hx
    have hna : mem d ((getN (ancs ops.toList) k).getD []) = false := by
      cases hma : mem d ((getN (ancs ops.toList) k).getD []) with
      | false => rfl
      | true => have := ancs_listed hI.closed ho hr hma; rw [hu] at this; cases this
    exact pend_again (hI.pend d hd hu x hx) (still_fact hs d (mem_again hd hx hWx (.inr hna)) x hx) (fun t ht => p3 t (hunseen d hd hu x hx t ht)) hG
  · obtain ⟨hd, hu⟩ := hpre d hd hu
    obtain ⟨hd', hu'⟩ := hpre d' hd' hu'
    rw [p3 t (hunseen d hd hu x hx t ht)] at hg
    rw [p3 t' (hunseen d' hd' hu' x' hx' t' ht')] at hg'
    exact hI.diff d hd d' hd' hu hu' hne x x' t t' id id' hx hx' ht ht' hg hg' ha ha'
/-- One that was pending comes. -/
theorem Inv.arrive (hI : Inv P w0 ops n ρ0 A0 pre listed st ρ a w) {d : Nat} (hd : d ∈ pre) {o : Oper} (ho : ops[d]? = some o) (hr : ∀ x ∈ waits o, listed.getD x false = true) (hu : un listed d)
    {ρ' : Env} {w' : World} {z : Value} (hwr : WR w0 ρ' st.A w') (hG : Good ρ0 A0 ρ' st.A) (hle : ρ.le ρ') (hz : ∀ t, o.dst = some t → ∃ v, st.fr.get t = some v ∧ conc ρ' v = some z)
    (hpend : ∀ x ∈ pre, x ≠ d → un listed x → ∀ q, ops[x]? = some q → Pend P ops n ρ' A0 st q) : Inv P w0 ops n ρ0 A0 pre (listed.setIfInBounds d true) st ρ' (a.put o.dst z) w' := by
  have hdl : d < listed.size := by rw [hI.lsize]; exact (Array.getElem?_eq_some_iff.1 ho).1
  have hP := hI.pend d hd hu o ho
  have hpg := fun t => put_get (a := a) (d := o.dst) (z := z) t (fun u hu => by rw [hI.size]; exact hP.dst u hu)
  refine ⟨by rw [put_defs]; exact hI.defers, by rw [put_size]; exact hI.size, hI.lim, by simp [hI.lsize], hI.closed.set ho hdl hr, fun j hj => ?_, fun x hx q hq hw => ?_, hI.built, hwr, hG, fun t c hc => ?_, fun x hx hux q hq => ?_, fun x hx x' hx' hux hux' hne q q' t t' id id' h1 h2 h3 h4 h5 h6 h7 h8 => ?_⟩
  · rw [getD_set hdl] at hj
    by_cases e : j = d
    · rw [e]; exact hd
    · rw [if_neg e] at hj; exact hI.sub j hj
  · rw [getD_set hdl]
    by_cases e : x = d
    · rw [if_pos e]
    · rw [if_neg e]; exact hI.wdone x hx q hq hw
  · by_cases e : o.dst = some t
    · obtain ⟨v, g1, g2⟩ := hz t e
      rw [g1] at hc
      injection hc with hc
      subst hc
      exact .inr ⟨z, g2, (hpg t).1 e⟩
    · rcases hI.fr t c hc with ⟨x, hx, hux, q, hq, hqd⟩ | ⟨x, h1, h2⟩
      · refine .inl ⟨x, hx, (un_set hdl).2 ⟨fun e' => ?_, hux⟩, q, hq, hqd⟩
        subst e'
        rw [ho] at hq
        injection hq with hq
        subst hq
        exact e hqd
      · exact .inr ⟨x, conc_mono hle c x h1, by rw [(hpg t).2 e]; exact h2⟩
  · rw [un_set hdl] at hux
    exact hpend x hx hux.1 hux.2 q hq
  · rw [un_set hdl] at hux hux'
    exact hI.diff x hx x' hx' hux.2 hux'.2 hne q q' t t' id id' h1 h2 h3 h4 h5 h6 h7 h8
theorem Inv.come (hI : Inv P w0 ops n ρ0 A0 pre listed st ρ a w) {d : Nat} (hd : d ∈ pre) {o : Oper} (ho : ops[d]? = some o) (hr : ∀ x ∈ waits o, listed.getD x false = true) (hu : un listed d)
    {K : Act → World → Prop} {Q : Exit → Act → World → Prop} (hK : ∀ ρ' a' w', Inv P w0 ops n ρ0 A0 pre (listed.setIfInBounds d true) st ρ' a' w' → K a' w') : wpOp P ops Q d K a w := by
  have hP := hI.pend d hd hu o ho
  have hrd : ∀ t v, t ∈ looks ops.toList o → st.fr.get t = some v → ∃ x, conc ρ v = some x ∧ a.tmps[t]? = some x := fun t v ht hv => hI.reads hd hu ho hr ht hv
  have hle : ρ.le ρ := fun _ _ h => h
  unfold wpOp
  rw [ho]
  simp only
  rcases hP.rest with ⟨h1, h2⟩ | ⟨h1, h2, v, h3, h4⟩ | ⟨h1, e, z, t, id, h2, h3, h4, h5, h6, h7, h8, h9⟩
  · have hwd := wanted_reads h1 hrd
    rw [if_neg (by rw [hwd]; simp)]
    exact hK ρ _ w (hI.arrive hd ho hr hu hI.wr hI.good hle (fun t ht => ⟨_, h2 t ht, rfl⟩) (fun x hx _ hux q hq => hI.pend x hx hux q hq))
  · have hwd := wanted_reads h1 hrd
    rw [if_pos hwd]
    obtain ⟨z, e1, e2⟩ := evQ_run (a := a) hI.wr h3 (ok_reads hrd)
    refine .inl ?_
    unfold Oper.wp
    rw [e2]
    exact hK ρ _ w (hI.arrive hd ho hr hu hI.wr hI.good hle (fun t ht => ⟨v, h4 t ht, e1⟩) (fun x hx _ hux q hq => hI.pend x hx hux q hq))
  · have hwd := wanted_reads h1 hrd
    rw [if_pos hwd]
    refine .inl ?_
    unfold Oper.wp
    have hal : evAl P o.op st.fr = some ({ cells := z.cells, el := e, esz := 0, fz := 0, fb := false }, fun n => .p n 0) := by
      rw [h2]; simp only [evAl, h4]
    obtain ⟨C, X, e1, e2, e3, e4, e5, e6⟩ := evAl_run (a := a) hal (ok_reads hrd)
    obtain ⟨r1, r2⟩ := hI.wr.real h6 h7 (C := C) (f := (0, 0)) (cap := 0) (esz := 0) (w.alloc (.cells C e)) rfl rfl rfl rfl
      (fun j v hj => by
        obtain ⟨x, g1, g2⟩ := concL_get e2 j v hj
        exact ⟨x, g1, by simpa using g2⟩) (.inl rfl) rfl (by simp)
    rw [e1 w]
    refine hK _ _ _ (hI.arrive hd ho hr hu r1 ⟨fun b hb => ?_, hI.good.next, hI.good.keep⟩ r2 (fun u hu' => ?_) (fun x hx hne hux q hq => ?_))
    · rw [Env.set_other _ _ (by omega)]; exact hI.good.old b hb
    · rw [h3] at hu'
      injection hu' with hu'
      subst hu'
      exact ⟨_, h5, e6 id w.heap.size _ (Env.set_same _ _ _)⟩
    · have hPx := hI.pend x hx hux q hq
      refine ⟨hPx.dst, ?_⟩
      rcases hPx.rest with g | g | ⟨g1, e', z', t', id', g2, g3, g4, g5, g6, g7, g8⟩
      · exact .inl g
      · exact .inr (.inl g)
      · have hid := hI.diff x hx d hd hux hu hne q o t' t id' id hq ho g3 h3 g5 h5 (by rw [g2]; rfl) (by rw [h2]; rfl)
        exact .inr (.inr ⟨g1, e', z', t', id', g2, g3, g4, g5, g6, by rw [Env.set_other _ _ hid]; exact g7, g8⟩)

/-! ### Counting -/
def left (listed : Array Bool) : Nat := listed.toList.countP fun b => !b
theorem left_set {l : Array Bool} {i : Nat} (hi : i < l.size) (h : un l i) : left (l.setIfInBounds i true) + 1 = left l := by
  unfold left un at *
  have h' : l.toList[i] = false := by simpa [hi] using h
  rw [Array.toList_setIfInBounds, List.countP_set (by simpa using hi)]
  simp only [h', Bool.not_false, if_true, Bool.not_true]
  have : 0 < l.toList.countP fun b => !b := List.countP_pos_iff.2 ⟨false, by rw [← h']; exact List.getElem_mem _, rfl⟩
  simp only [Bool.false_eq_true, if_false, Nat.add_zero]
  omega
theorem left_zero {l : Array Bool} (h : left l = 0) : ∀ i, i < l.size → l.getD i false = true := by
  intro i hi
  unfold left at h
  rw [List.countP_eq_zero] at h
  have := h l[i] (by simp)
  simp at this
  simp [hi, this]

/-! ### The region -/
/-- What is asked at the end. -/
def Final (P : Program) (w0 : World) (n : Nat) (ρ0 : Env) (A0 : AW) (st' : St) (Q : Exit → Act → World → Prop) : Prop := ∀ a' w' ρ', SR w0 ρ' n st' a' w' → Good ρ0 A0 ρ' st'.A → Q .normal a' w'
theorem Inv.allListed (hI : Inv P w0 ops n ρ0 A0 pre listed st ρ a w) (hr : Region.ready .any ops listed = []) : ∀ d ∈ pre, listed.getD d false = true := by
  have key : ∀ p, Built P ops p → (∀ d ∈ p, listed.getD d false = true) := by
    intro p hb
    induction hb with
    | nil => intro d hd; cases hd
    | cons hb ho hm ih =>
      rename_i pre' i o
      have hM := may_of hm
      intro d hd
      rcases List.mem_cons.1 hd with rfl | hd
      · cases hl : listed.getD d false with
        | true => rfl
        | false =>
          exfalso
          have hdl : d < listed.size := by rw [hI.lsize]; exact (Array.getElem?_eq_some_iff.1 ho).1
          have : d ∈ Region.ready .any ops listed := ready_iff.2 ⟨by rw [getD_flip hdl]; exact hl, o, ho, fun x hx => ih x (hM.wait x hx)⟩
          rw [hr] at this
          cases this
      · exact ih d hd
  exact key pre hI.built
theorem Inv.final (hI : Inv P w0 ops n ρ0 A0 pre listed st ρ a w) (h : ∀ d ∈ pre, listed.getD d false = true) : SR w0 ρ n st a w :=
  ⟨hI.defers, hI.size, hI.lim, fun t v hv => by
    rcases hI.fr t v hv with ⟨d, hd, hu, _⟩ | h'
    · have := h d hd; rw [hu] at this; cases this
    · exact h', hI.wr⟩
theorem plan_main {ihs : Nat → Task → Option Res} (hE : ExtOK P exts) (hN : NumOK P) (hC : ∀ i, CallOK P w0 (ihs i)) {Q : Exit → Act → World → Prop} {st' : St} (hQ : Final P w0 n ρ0 A0 st' Q) : ∀ (fuel : Nat) (rest : List (Nat × List Nat)) (pre : List Nat) (listed : Array Bool) (st : St) (ρ : Env) (a : Act) (w : World),
    Inv P w0 ops n ρ0 A0 pre listed st ρ a w → Valid P ops pre rest → evPlan P exts ihs ops.toList n rest st = some st' → left listed = fuel → wpAny P .any ops Q fuel listed a w := by
  intro fuel
  induction fuel with
  | zero =>
    intro rest
    induction rest with
    | nil =>
      intro pre listed st ρ a w hI hV h hl
      simp only [evPlan, Option.some.injEq] at h
      subst h
      have hall : ∀ d ∈ pre, listed.getD d false = true := fun d hd => by
        by_cases hd' : d < listed.size
        · exact left_zero hl d hd'
        · exact Classical.byContradiction fun hne => by
            have hb : ∀ p, Built P ops p → ∀ d ∈ p, d < ops.size := by
              intro p hb
              induction hb with
              | nil => intro d hd; cases hd
              | cons hb ho hm ih =>
                intro d hd
                rcases List.mem_cons.1 hd with rfl | hd
                · exact (Array.getElem?_eq_some_iff.1 ho).1
                · exact ih d hd
            have := hb pre hI.built d hd
            rw [hI.lsize] at hd'
            omega
      refine ⟨?_, hQ a w ρ (hI.final hall) hI.good⟩
      cases hr : Region.ready .any ops listed with
      | nil => rfl
      | cons j l =>
        have : j ∈ Region.ready .any ops listed := by rw [hr]; simp
        obtain ⟨h1, o, ho, _⟩ := ready_iff.1 this
        have hj : j < listed.size := by rw [hI.lsize]; exact (Array.getElem?_eq_some_iff.1 ho).1
        rw [getD_flip hj, left_zero hl j hj] at h1
        cases h1
    | cons x rest ihr =>
      intro pre listed st ρ a w hI hV h hl
      obtain ⟨i, re⟩ := x
      obtain ⟨o, ho, hm, _, _⟩ := hV
      exfalso
      have hi : i < listed.size := by rw [hI.lsize]; exact (Array.getElem?_eq_some_iff.1 ho).1
      exact (may_of hm).new (hI.sub i (left_zero hl i hi))
  | succ fuel ihf =>
    intro rest
    induction rest with
    | nil =>
      intro pre listed st ρ a w hI hV h hl
      have h' := h
      simp only [evPlan, Option.some.injEq] at h
      refine ⟨fun hr => ?_, fun j hj => ?_⟩
      · subst h
        exact hQ a w ρ (hI.final (hI.allListed hr)) hI.good
      · obtain ⟨h1, o, ho, hw⟩ := ready_iff.1 hj
        have hjl : j < listed.size := by rw [hI.lsize]; exact (Array.getElem?_eq_some_iff.1 ho).1
        rw [getD_flip hjl] at h1
        exact hI.come (hV j (Array.getElem?_eq_some_iff.1 ho).1) ho hw h1 fun ρ' a' w' hI' => ihf [] pre _ st ρ' a' w' hI' hV h' (by have := left_set hjl h1; omega)
    | cons x rest ihr =>
      intro pre listed st ρ a w hI hV h hl
      obtain ⟨i, re⟩ := x
      have hV0 := hV
      obtain ⟨o, ho, hm, hre, hV'⟩ := hV
      have hM := may_of hm
      have h0 := h
      simp only [evPlan] at h
      have hg : getN ops.toList i = some o := by rw [getN_eq, Array.getElem?_toList]; exact ho
      rw [hg] at h
      simp only at h
      cases hwd : wantedA ops.toList st.fr o with
      | none => simp [hwd] at h
      | some b =>
        simp only [hwd] at h
        cases hW : isW P o with
        | false =>
          -- the plan goes on
          cases b with
          | false =>
            simp only at h
            cases hd : doN n o st with
            | none => simp [hd] at h
            | some st2 =>
              simp only [hd] at h
              have h2 := (cond_some h).2
              exact ihr (i :: pre) listed st2 ρ a w (hI.stepN ho hm hW hwd hd) hV' h2 hl
          | true =>
            simp only at h
            cases hd : evOp P exts (ihs i) n o st with
            | none => simp [hd] at h
            | some st2 =>
              simp only [hd] at h
              obtain ⟨h1, h2⟩ := cond_some h
              cases hal : isAl o.op with
              | false =>
                have hk : kind P o.op = .q := by
                  unfold isW at hW
                  split at hW
                  · cases hW
                  · rename_i e he; rw [he] at hal; cases hal
                  · split at hW
                    · assumption
                    · cases hW
                unfold evOp at hd
                rw [hk] at hd
                exact ihr (i :: pre) listed st2 ρ a w (hI.stepQ ho hm hW hal hwd hd) hV' h2 hl
              | true =>
                have hk : kind P o.op = .al := by
                  cases hx : o.op <;> rw [hx] at hal <;> simp [isAl] at hal
                  rfl
                unfold evOp at hd
                rw [hk] at hd
                rw [hW, hal] at h1
                simp only [Bool.or_true, Bool.not_true, Bool.false_or] at h1
                rw [hre] at h1
                exact ihr (i :: pre) listed st2 ρ a w (hI.stepA ho hm hW hal hwd hd h1) hV' h2 hl
        | true =>
          -- a writer: it, or one that is pending
          refine ⟨fun hr => ?_, fun j hj => ?_⟩
          · exfalso
            have hil : i < listed.size := by rw [hI.lsize]; exact (Array.getElem?_eq_some_iff.1 ho).1
            have : i ∈ Region.ready .any ops listed := ready_iff.2 ⟨by rw [getD_flip hil]; exact hI.unlisted hM.new, o, ho, fun x hx => hI.allListed hr x (hM.wait x hx)⟩
            rw [hr] at this
            cases this
          · obtain ⟨h1, oj, hoj, hw⟩ := ready_iff.1 hj
            have hjl : j < listed.size := by rw [hI.lsize]; exact (Array.getElem?_eq_some_iff.1 hoj).1
            rw [getD_flip hjl] at h1
            by_cases hjp : j ∈ pre
            · exact hI.come hjp hoj hw h1 fun ρ' a' w' hI' => ihf ((i, re) :: rest) pre _ st ρ' a' w' hI' hV0 h0 (by have := left_set hjl h1; omega)
            · by_cases hji : j = i
              · subst hji
                rw [ho] at hoj
                injection hoj with hoj
                subst hoj
                have hrd : ∀ t v, t ∈ looks ops.toList o → st.fr.get t = some v → ∃ x, conc ρ v = some x ∧ a.tmps[t]? = some x := fun t v ht hv => hI.readsW ho hM hw ht hv
                have hwr := wanted_reads hwd hrd
                unfold wpOp
                rw [ho]
                simp only
                cases b with
                | false =>
                  rw [if_neg (by rw [hwr]; simp)]
                  simp only at h
                  cases hd : doN n o st with
                  | none => simp [hd] at h
                  | some st2 =>
                    simp only [hd] at h
                    obtain ⟨h3, h2⟩ := cond_some h
                    rw [hW] at h3
                    simp only [Bool.true_or, Bool.not_true, Bool.false_or] at h3
                    rw [hre] at h3
                    unfold doN at hd
                    split at hd
                    · rename_i fr hp
                      simp only [Option.some.injEq] at hd
                      subst hd
                      exact ihf rest (j :: pre) _ _ ρ _ w (hI.write ho hm hw (st' := ⟨fr, st.A⟩) hI.wr (Good.refl _ _) rfl hp h3) hV' h2 (by have := left_set hjl h1; omega)
                    · cases hd
                | true =>
                  rw [if_pos hwr]
                  simp only at h
                  cases hd : evOp P exts (ihs j) n o st with
                  | none => simp [hd] at h
                  | some st2 =>
                    simp only [hd] at h
                    obtain ⟨h3, h2⟩ := cond_some h
                    rw [hW] at h3
                    simp only [Bool.true_or, Bool.not_true, Bool.false_or] at h3
                    rw [hre] at h3
                    refine .inl (evOp_core hE hN (hC _) hI.wr (ok_reads hrd) hd fun z w' ρ' v g1 g2 g3 g4 => ?_)
                    exact ihf rest (j :: pre) _ st2 ρ' _ w' (hI.write ho hm hw g1 g2 g3 g4 h3) hV' h2 (by have := left_set hjl h1; omega)
              · exfalso
                obtain ⟨d, hd, hdp⟩ := hM.sole hW j oj hoj hjp hji
                exact hdp (hI.sub d (hw d hd))
/-- ████ A REGION THAT DRAWS ITS ORDER. -/
theorem evPlan_run {ihs : Nat → Task → Option Res} (hm : P.follows .mixedOrders = true) (hE : ExtOK P exts) (hN : NumOK P) (hC : ∀ i, CallOK P w0 (ihs i)) {id : Nat} {Q : Exit → Act → World → Prop} {st st' : St} {ρ : Env} {a : Act} {w : World} (hs : SR w0 ρ n st a w) {pl : List (Nat × List Nat)} (hpl : planOf P ops.toList = some pl)
    (h : evPlan P exts ihs ops.toList n pl st = some st') (hQ : Final P w0 n ρ st.A st' Q) : (Code.region id ops true).wp P Q a w := by
  refine wp_region_any hm ?_
  have hun : ∀ j, (Array.replicate ops.size false).getD j false = false := by
    intro j
    by_cases hj : j < ops.size <;> simp [Array.getD_eq_getD_getElem?, hj]
  have hI : Inv P w0 ops n ρ st.A [] (Array.replicate ops.size false) st ρ a { w with drawn := w.drawn + 1 } :=
    { defers := hs.defers, size := hs.size, lim := hs.lim, lsize := by simp
      closed := fun j o _ hl => by rw [hun j] at hl; cases hl
      sub := fun j hl => by rw [hun j] at hl; cases hl
      wdone := fun d hd => by cases hd
      built := .nil
      wr := hs.wr.drew
      good := Good.refl _ _
      fr := fun t v hv => .inr (hs.fr t v hv)
      pend := fun d hd => by cases hd
      diff := fun d hd => by cases hd }
  refine plan_main hE hN hC hQ ops.size pl [] _ st ρ a _ hI (planOf_valid hpl) h ?_
  simp only [left, Array.toList_replicate]
  induction ops.size with
  | zero => rfl
  | succ k ih => simp [List.replicate_succ, ih]
end
end Go.Ce
