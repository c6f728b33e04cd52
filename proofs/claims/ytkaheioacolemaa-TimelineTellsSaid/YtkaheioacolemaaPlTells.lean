/- The law TimelineTells: for every input, after enough rounds, true. Conditions: none beyond what a slice is. -/
import Derived.Test.YtkaheioacolemaaPlRef
import Derived.Test.YtkaheioacolemaaXTx14
namespace Go.Proofs.Ytkaheioacolemaa.XT
open Go.RowKit Go.Proofs.YtkaheioacolemaaW.PrintWords Go.Proofs.YtkaheioacolemaaW.PrintLast Go.Proofs.YtkaheioacolemaaW.PrintMore Go.Proofs.Ytkaheioacolemaa.B
set_option linter.unusedVariables false
set_option linter.unusedSimpArgs false

theorem TimelineTells_ev (l m : List S34) (time version : Int) (d : List S49) (ht : -9223372036854775808 ≤ time) (hd : d.length ≤ maxLen) : Ev (fun k => erratalaw45_TimelineTells.f k l m time version d) true := by
  unfold erratalaw45_TimelineTells.f
  refine Ev.bind small_ev (Ev.bind (few_ev l d hd) ?_)
  have hj : Ev (fun k => erratalaw45_TimelineTells.j0 k l m time version d true true) true := by
    refine Ev.succ ?_
    simp only [erratalaw45_TimelineTells.j0, if_true]
    exact Ev.now _
  by_cases hf : (∀ x ∈ d, x.f1.length ≤ 15) ∧ l.length ≤ 60 ∧ d.length ≤ 60
  · obtain ⟨hrow, hl, hd60⟩ := hf
    have hfew : (d.all (fun x => decide (x.f1.length ≤ 15)) && decide (l.length ≤ 60) && decide (d.length ≤ 60)) = true := by
      simp [hl, hd60, List.all_eq_true]
      exact hrow
    simp only [hfew, if_true]
    by_cases hm : (m.length : Int) > 60
    · simp only [hm, decide_true]
      exact hj
    · simp only [hm, decide_false]
      refine Ev.succ ?_
      simp only [erratalaw45_TimelineTells.j0, Bool.false_eq_true, if_false]
      refine Ev.bind (right_ev l (by omega)) (Ev.bind (refRight_ev l (by omega)) ?_)
      simp only [bne_self_eq_false, Bool.false_eq_true, if_false]
      refine Ev.bind (same_ev l m (by omega)) (Ev.bind (refSame_ev l m (by omega)) ?_)
      simp only [bne_self_eq_false]
      refine Ev.succ ?_
      simp only [erratalaw45_TimelineTells.j1, Bool.false_eq_true, if_false]
      refine Ev.bind (refRight_ev l (by omega)) ?_
      cases hr : right l with
      | false =>
        simp only [Bool.false_eq_true, if_false]
        exact Ev.now _
      | true =>
        simp only [if_true]
        have hj3 : Ev (fun k => erratalaw45_TimelineTells.j3 k l version d true false) true := by
          refine Ev.succ ?_
          simp only [erratalaw45_TimelineTells.j3, Bool.false_eq_true, if_false, if_true]
          refine Ev.bind (spans_ev l (by omega) version) (Ev.bind (refSpans_ev l (by omega) version) ?_)
          have hsp : (spanL version l).length ≤ l.length := by
            have key : ∀ xs : List S34, (spanL version xs).length ≤ xs.length := by
              intro xs
              induction xs with
              | nil => simp [spanL]
              | cons x xs ih =>
                cases xs with
                | nil => simp only [spanL]; split <;> simp
                | cons y ys =>
                  simp only [spanL, List.length_append]
                  have : (if x.f1 = version then [(⟨x.f0, y.f0⟩ : S34)] else []).length ≤ 1 := by split <;> simp
                  simp only [List.length_cons] at ih ⊢
                  omega
            exact key l
          refine Ev.bind (refSame_ev _ _ (by omega)) ?_
          rw [eqL_refl]
          simp only [if_true]
          refine Ev.bind (pick_ev hr (by omega) version d hd60 hrow) (Ev.bind (refPick_ev hr (by omega) version d hd60) ?_)
          have hfl := List.length_filter_le (fun x : S49 => atS l x.f0 == version) d
          exact Ev.bind (sameDeltas_self _ (by omega) (fun x hx => hrow x (List.mem_filter.1 hx).1)) (Ev.now _)
        have hj2 : Ev (fun k => erratalaw45_TimelineTells.j2 k l time version d true false) true := by
          refine Ev.succ ?_
          simp only [erratalaw45_TimelineTells.j2, Bool.false_eq_true, if_false]
          have hv0 : vers (l.drop (openFrom l (-1))) = vers l := by rw [openFrom_all hr, List.drop_zero]
          have hvl := vers_len l
          have hvl2 := vers_len (l.drop (openFrom l time))
          rw [List.length_drop] at hvl2
          refine Ev.bind (versionsV_ev l (by omega)) (Ev.bind (ev_eq (refVersions_ev hr (by omega) (-1)) hv0) (Ev.bind (sameInts_ev _ _ (by omega)) ?_))
          simp only [beq_self_eq_true, if_true]
          refine Ev.bind (open_ev hr (by omega) time ht) (Ev.bind (refVersions_ev hr (by omega) time) (Ev.bind (sameInts_ev _ _ (by omega)) ?_))
          simp only [beq_self_eq_true, Bool.not_true]
          exact hj3
        by_cases hg : 0 ≤ time ∧ time ≤ 1099511627776 ∧ 1 ≤ version ∧ version ≤ 50
        · obtain ⟨g0, g1, g2, g3⟩ := hg
          have hrl := repS_len (l := l) (a := time) (v := version)
          refine Ev.bind (replace_ev hr (by omega) g0 g1 g2 g3) (Ev.bind (refReplace_ev hr (by omega) g0 g1 g2 g3) ?_)
          simp only [if_true]
          refine Ev.bind (refSame_ev _ _ (by omega)) ?_
          rw [eqL_refl]
          simp only [if_true, at_right hr (show l.length < 4611686018427387904 by omega), Option.bind_some]
          refine Ev.bind (refAt_ev hr (by omega)) ?_
          simp only [bne_self_eq_false]
          exact hj2
        · have hbad : time < 0 ∨ 1099511627776 < time ∨ version < 1 ∨ 50 < version := by omega
          refine Ev.bind (replace_bad hbad) (Ev.bind (refReplace_bad hbad) ?_)
          simp only [if_true]
          refine Ev.bind (refSame_ev _ _ (by simp)) ?_
          rw [eqL_refl]
          simp only [if_true, at_right hr (show l.length < 4611686018427387904 by omega), Option.bind_some]
          refine Ev.bind (refAt_ev hr (by omega)) ?_
          simp only [bne_self_eq_false]
          exact hj2
  · have hfew : (d.all (fun x => decide (x.f1.length ≤ 15)) && decide (l.length ≤ 60) && decide (d.length ≤ 60)) = false := by
      cases h : (d.all (fun x => decide (x.f1.length ≤ 15)) && decide (l.length ≤ 60) && decide (d.length ≤ 60)) with
      | false => rfl
      | true =>
        refine absurd ?_ hf
        simp [List.all_eq_true] at h
        exact ⟨h.1.1, h.1.2, h.2⟩
    simp only [hfew, Bool.false_eq_true, if_false]
    exact hj
end Go.Proofs.Ytkaheioacolemaa.XT
