/- The plain laws TimelineSame and TimelineLast: for every input, after enough rounds, true. Conditions: lists shorter than 2^62. -/
import Derived.Test.YtkaheioacolemaaPl2
import Derived.Test.YtkaheioacolemaaXTx5
import Derived.Test.YtkaheioacolemaaXTx6
namespace Go.Proofs.Ytkaheioacolemaa.XT
open Go.RowKit Go.Proofs.YtkaheioacolemaaW.PrintWords Go.Proofs.YtkaheioacolemaaW.PrintLast Go.Proofs.YtkaheioacolemaaW.PrintMore Go.Proofs.Ytkaheioacolemaa.B
set_option linter.unusedVariables false
set_option linter.unusedSimpArgs false

/-- Two that go on behind one segment are the same where their versions meet at all beginnings. -/
theorem same_tail (p : S34) (xs ys : List S34) (hx : chain p xs = true) (hy : chain p ys = true) (h1 : ∀ x ∈ xs, atf p.f1 ys x.f0 = x.f1) (h2 : ∀ y ∈ ys, atf p.f1 xs y.f0 = y.f1) : xs = ys := by
  induction xs generalizing p ys with
  | nil =>
    cases ys with
    | nil => rfl
    | cons y ys =>
      have := h2 y (by simp)
      obtain ⟨hy1, _⟩ := chain_cons hy
      simp only [atf] at this
      exact absurd this.symm hy1.2.2.2.2
  | cons x xs ih =>
    obtain ⟨hx1, hxc⟩ := chain_cons hx
    cases ys with
    | nil =>
      have := h1 x (by simp)
      simp only [atf] at this
      exact absurd this.symm hx1.2.2.2.2
    | cons y ys =>
      obtain ⟨hy1, hyc⟩ := chain_cons hy
      have a1 := h1 x (by simp)
      have a2 := h2 y (by simp)
      simp only [atf] at a1 a2
      have e0 : x.f0 = y.f0 := by
        rcases Int.lt_trichotomy x.f0 y.f0 with h | h | h
        · rw [if_neg (by omega)] at a1
          exact absurd a1.symm hx1.2.2.2.2
        · exact h
        · rw [if_neg (by omega)] at a2
          exact absurd a2.symm hy1.2.2.2.2
      rw [if_pos (by omega), atf_before hyc (by omega)] at a1
      have e : x = y := s34_ext e0 a1.symm
      subst e
      congr 1
      refine ih x ys hxc hyc (fun z hz => ?_) (fun z hz => ?_)
      · have := h1 z (by simp [hz])
        have hz2 := chain_all hxc z hz
        simp only [atf] at this
        rwa [if_pos (by omega)] at this
      · have := h2 z (by simp [hz])
        have hz2 := chain_all hyc z hz
        simp only [atf] at this
        rwa [if_pos (by omega)] at this
theorem atf_self (p : S34) (pre xs : List S34) (v : Int) (h : chain p xs = true) : ∀ x ∈ xs, atf v xs x.f0 = x.f1 := by
  induction xs generalizing p v with
  | nil => intro x hx; cases hx
  | cons y ys ih =>
    obtain ⟨h1, hc⟩ := chain_cons h
    intro x hx
    rcases List.mem_cons.1 hx with rfl | hx
    · simp only [atf, Int.le_refl, if_true]
      exact atf_before hc (Int.le_refl _)
    · have := chain_all hc x hx
      simp only [atf]
      rw [if_pos (by omega)]
      exact ih y _ hc x hx
theorem atS_self {l : List S34} (h : right l = true) : ∀ x ∈ l, atS l x.f0 = x.f1 := by
  cases l with
  | nil => cases h
  | cons p xs =>
    obtain ⟨_, _, _, hc⟩ := right_cons h
    intro x hx
    rcases List.mem_cons.1 hx with rfl | hx
    · exact atf_before hc (Int.le_refl _)
    · exact atf_self p [] xs _ hc x hx
theorem same_iff {a b : List S34} (ha : right a = true) (hb : right b = true) :
    eqL a b = (a.all (fun x => atS b x.f0 == x.f1) && b.all (fun y => atS a y.f0 == y.f1)) := by
  rw [Bool.eq_iff_iff]
  rw [eqL_iff, Bool.and_eq_true, List.all_eq_true, List.all_eq_true]
  constructor
  · rintro rfl
    exact ⟨fun x hx => by simpa using atS_self ha x hx, fun x hx => by simpa using atS_self ha x hx⟩
  · rintro ⟨h1, h2⟩
    cases a with
    | nil => cases ha
    | cons p xs =>
      cases b with
      | nil => cases hb
      | cons q ys =>
        obtain ⟨p0, _, _, hx⟩ := right_cons ha
        obtain ⟨q0, _, _, hy⟩ := right_cons hb
        have a1 := h1 p (by simp)
        simp only [beq_iff_eq, atS] at a1
        rw [atf_before hy (by omega)] at a1
        have e : p = q := s34_ext (by omega) a1.symm
        subst e
        congr 1
        refine same_tail p xs ys hx hy (fun x hx => ?_) (fun y hy => ?_)
        · have := h1 x (by simp [hx])
          simpa [atS] using this
        · have := h2 y (by simp [hy])
          simpa [atS] using this

section
variable {a b : List S34} (ha : right a = true) (hb : right b = true) (hla : a.length < 4611686018427387904) (hlb : b.length < 4611686018427387904)
include ha hla hlb
theorem lawSame_l1 : ∀ (ys : List S34) (i : Nat) (fl : Bool), b.drop i = ys →
    Ev (fun k => erratalaw45_TimelineSame.l1 k a b true fl (i : Int)) (eqL a b == (fl && ys.all (fun y => atS a y.f0 == y.f1))) := by
  intro ys
  induction ys with
  | nil =>
    intro i fl hd
    have hn := drop_nil hd
    refine Ev.succ ?_
    simp only [erratalaw45_TimelineSame.l1, not_lt_cast hn, if_false, if_true]
    refine Ev.bind (same_ev a b hla) ?_
    refine Ev.none_k ?_
    simp
  | cons y ys ih =>
    intro i fl hd
    obtain ⟨hi, hy, hd⟩ := drop_cons hd
    have e2 := wrap_succ (i := i) (by omega)
    refine Ev.succ ?_
    cases fl with
    | false =>
      simp only [erratalaw45_TimelineSame.l1, lt_cast hi, if_true, Bool.false_eq_true, if_false, e2]
      refine ev_eq (ih (i + 1) false hd) ?_
      simp
    | true =>
      simp only [erratalaw45_TimelineSame.l1, lt_cast hi, if_true, zero_le_cast, rd34 hy, at_right ha hla, Option.bind_some, e2]
      refine ev_eq (ih (i + 1) _ hd) ?_
      simp
include hb in
theorem lawSame_l0 : ∀ (xs : List S34) (i : Nat) (fl : Bool), a.drop i = xs →
    Ev (fun k => erratalaw45_TimelineSame.l0 k a b true fl (i : Int)) (eqL a b == (fl && xs.all (fun x => atS b x.f0 == x.f1) && b.all (fun y => atS a y.f0 == y.f1))) := by
  intro xs
  induction xs with
  | nil =>
    intro i fl hd
    have hn := drop_nil hd
    refine Ev.succ ?_
    simp only [erratalaw45_TimelineSame.l0, not_lt_cast hn, if_false]
    refine ev_eq (lawSame_l1 ha hla hlb b 0 fl rfl) ?_
    simp
  | cons x xs ih =>
    intro i fl hd
    obtain ⟨hi, hx, hd⟩ := drop_cons hd
    have e2 := wrap_succ (i := i) (by omega)
    refine Ev.succ ?_
    cases fl with
    | false =>
      simp only [erratalaw45_TimelineSame.l0, lt_cast hi, if_true, Bool.false_eq_true, if_false, e2]
      refine ev_eq (ih (i + 1) false hd) ?_
      simp
    | true =>
      simp only [erratalaw45_TimelineSame.l0, lt_cast hi, if_true, zero_le_cast, rd34 hx, at_right hb hlb, Option.bind_some, e2]
      refine ev_eq (ih (i + 1) _ hd) ?_
      simp
end
theorem TimelineSame_ev (a b : List S34) : Ev (fun k => erratalaw45_TimelineSame.f k a b) true := by
  unfold erratalaw45_TimelineSame.f
  refine Ev.bind small_ev ?_
  have hj : Ev (fun k => erratalaw45_TimelineSame.j0 k a b true true) true := by
    refine Ev.succ ?_
    simp only [erratalaw45_TimelineSame.j0, if_true]
    exact Ev.now _
  by_cases h1 : (a.length : Int) > 40
  · simp only [h1, if_true]
    exact hj
  · by_cases h2 : (b.length : Int) > 40
    · simp only [h1, h2, if_true, if_false]
      exact hj
    · have hla : a.length < 4611686018427387904 := by omega
      have hlb : b.length < 4611686018427387904 := by omega
      simp only [h1, h2, if_false]
      refine Ev.bind (right_ev a hla) ?_
      cases ha : right a with
      | false =>
        simp only [Bool.false_eq_true, if_false]
        exact hj
      | true =>
        simp only [if_true]
        refine Ev.bind (right_ev b hlb) ?_
        cases hb : right b with
        | false => exact hj
        | true =>
          refine Ev.succ ?_
          simp only [erratalaw45_TimelineSame.j0, Bool.not_true, Bool.false_eq_true, if_false]
          refine ev_eq (lawSame_l0 ha hb hla hlb a 0 true rfl) ?_
          rw [same_iff ha hb]
          simp

/-! ### the last replacement counts -/
theorem lawLast_loop (cs : List S30) (hlc : cs.length ≤ 40) (time : Int) (ht : 0 ≤ time) (htw : time ≤ 9223372036854775807) (hw : ∀ c ∈ cs, -9223372036854775808 ≤ c.f0) : ∀ (xs : List S30) (i : Nat) (l : List S34) (want : Int), cs.drop i = xs →
    right l = true → l.length ≤ i + 1 → atS l time = want → Ev (fun k => erratalaw45_TimelineLast.l0 k cs time true l want (i : Int)) true := by
  intro xs
  induction xs with
  | nil =>
    intro i l want hd hr hll hwant
    have hn := drop_nil hd
    refine Ev.succ ?_
    simp only [erratalaw45_TimelineLast.l0, not_lt_cast hn, if_false]
    exact Ev.now _
  | cons c xs ih =>
    intro i l want hd hr hll hwant
    obtain ⟨hi, hc, hd⟩ := drop_cons hd
    have e2 := wrap_succ (i := i) (by omega)
    have hcm : c ∈ cs := List.mem_of_getElem? hc
    have hcw := hw c hcm
    refine Ev.succ ?_
    simp only [erratalaw45_TimelineLast.l0, lt_cast hi, zero_le_cast, rd30 hc, if_true]
    by_cases hg : 0 ≤ c.f0 ∧ c.f0 ≤ 1099511627776 ∧ 1 ≤ c.f1 ∧ c.f1 ≤ 50
    · obtain ⟨g0, g1, g2, g3⟩ := hg
      refine Ev.bind (replace_ev hr (by omega) g0 g1 g2 g3) ?_
      have hr2 := repS_right hr g0 g1 g2 g3
      have hl2 := repS_len (l := l) (a := c.f0) (v := c.f1)
      have e1 : c.f0 ≥ 0 := g0
      have e3 : c.f1 ≥ 1 := g2
      simp only [e1, g1, e3, g3, if_true, decide_true]
      refine Ev.succ ?_
      have b1 : (true != ((0 : Int) == 0)) = false := by decide
      simp only [erratalaw45_TimelineLast.j2, b1, Bool.false_eq_true, if_false, if_true]
      refine Ev.bind (right_ev _ (by omega)) ?_
      rw [hr2]
      simp only [if_true, zero_le_cast, lt_cast hi, rd30 hc]
      have hat : timeline_At.f (repS l c.f0 c.f1) c.f0 = some c.f1 := by
        rw [at_right hr2 (by omega), repS_at hr g0 g0, if_pos (Int.le_refl _)]
      have hj3 : Ev (fun k => erratalaw45_TimelineLast.j3 k cs time true want (i : Int) (repS l c.f0 c.f1) false) true := by
        refine Ev.succ ?_
        have hat2 : timeline_At.f (repS l c.f0 c.f1) time = some (if c.f0 ≤ time then c.f1 else want) := by
          rw [at_right hr2 (by omega), repS_at hr g0 ht, hwant]
        simp only [erratalaw45_TimelineLast.j3, Bool.false_eq_true, if_false, zero_le_cast, lt_cast hi, if_true, rd30 hc, hat2, Option.bind_some, e2]
        have hat3 : atS (repS l c.f0 c.f1) time = if c.f0 ≤ time then c.f1 else want := by rw [repS_at hr g0 ht, hwant]
        by_cases hct : c.f0 ≤ time
        · simp only [hct, if_true] at hat3 ⊢
          exact ih (i + 1) _ _ hd hr2 (by omega) hat3
        · simp only [hct, if_false, if_true] at hat3 ⊢
          exact ih (i + 1) _ _ hd hr2 (by omega) hat3
      by_cases hz : c.f0 > 0
      · have ew : wrap64 (c.f0 - 1) = c.f0 - 1 := wrap_id (by omega) (by omega)
        have a1 : timeline_At.f (repS l c.f0 c.f1) (c.f0 - 1) = some (atS l (c.f0 - 1)) := by
          rw [at_right hr2 (by omega), repS_at hr g0 (by omega), if_neg (by omega)]
        have a2 : timeline_At.f l (c.f0 - 1) = some (atS l (c.f0 - 1)) := at_right hr (by omega)
        simp only [hz, if_true, ew, a1, a2, hat, Option.bind_some, bne_self_eq_false]
        exact hj3
      · simp only [hz, if_false, hat, Option.bind_some, bne_self_eq_false]
        exact hj3
    · have hbad : c.f0 < 0 ∨ 1099511627776 < c.f0 ∨ c.f1 < 1 ∨ 50 < c.f1 := by omega
      refine Ev.bind (replace_bad hbad) ?_
      have hj2 : Ev (fun k => erratalaw45_TimelineLast.j2 k cs time true l want (i : Int) [] 3 false) true := by
        refine Ev.succ ?_
        have b1 : (false != ((3 : Int) == 0)) = false := by decide
        simp only [erratalaw45_TimelineLast.j2, b1, Bool.false_eq_true, if_false, e2]
        exact ih (i + 1) _ _ hd hr (by omega) hwant
      by_cases h1 : c.f0 ≥ 0
      · by_cases h2 : c.f0 ≤ 1099511627776
        · by_cases h3 : c.f1 ≥ 1
          · have h4 : ¬ c.f1 ≤ 50 := by omega
            simp only [h1, h2, h3, h4, if_true, decide_false]
            exact hj2
          · simp only [h1, h2, h3, if_true, if_false]
            exact hj2
        · simp only [h1, h2, if_true, if_false]
          exact hj2
      · simp only [h1, if_false]
        exact hj2
theorem TimelineLast_ev (first : Int) (cs : List S30) (time : Int) (htw : time ≤ 9223372036854775807) (hw : ∀ c ∈ cs, -9223372036854775808 ≤ c.f0) : Ev (fun k => erratalaw45_TimelineLast.f k first cs time) true := by
  unfold erratalaw45_TimelineLast.f
  refine Ev.bind small_ev ?_
  have hj : Ev (fun k => erratalaw45_TimelineLast.j0 k first cs time true true) true := by
    refine Ev.succ ?_
    simp only [erratalaw45_TimelineLast.j0, if_true]
    exact Ev.now _
  by_cases h1 : first < 1
  · simp only [h1, if_true]
    exact hj
  · by_cases h2 : first > 50
    · simp only [h1, h2, if_true, if_false]
      exact hj
    · by_cases h3 : (cs.length : Int) > 40
      · simp only [h1, h2, h3, if_true, if_false]
        exact hj
      · by_cases h4 : time < 0
        · simp only [h1, h2, h3, h4, if_false, decide_true]
          exact hj
        · simp only [h1, h2, h3, h4, if_false, decide_false]
          refine Ev.succ ?_
          simp only [erratalaw45_TimelineLast.j0, Bool.false_eq_true, if_false, erratalaw45_begun.f, Option.bind_some]
          exact lawLast_loop cs (by omega) time (by omega) htw hw cs 0 [⟨0, first⟩] first rfl (right_mk ⟨rfl, by show 1 ≤ first; omega, by show first ≤ 50; omega, rfl⟩) (by simp) (by simp [atS, atf])
end Go.Proofs.Ytkaheioacolemaa.XT
