/- ExprSound: what the law gives. -/
import Derived.Test.YtjbmdfdgeioecaaN24
namespace Go.Proofs.Ytjbmdfdgeioecaa.X
open Go.Proofs.Ytjbmdfdgeioecaa.Am Go.Proofs.Ytjbmdfdgeioecaa.F
set_option linter.unusedVariables false
set_option linter.unusedSimpArgs false
set_option maxRecDepth 100000
set_option maxHeartbeats 1000000
theorem xEval_ok {fs : List Fn} {e : E} {time : Int} {row : List V} {v : V} (h : RR 42 [frv fs time row [], e.av] [] = some (v.av, [])) : RR 13 [slF fs, e.av, I time, slV row] [] = some (v.av, []) := by
  simp only [E.av, frv, V.av, show slV [] = .pv (.slc []) from rfl] at h
  apply xEval_r
  simp only [E.av, V.av]
  simp only [xEval_b, xEval_h, xEval_rs, Try.f13, h, F.EVT, Am.splice, Am.enterN, Am.freshMem, Am.cA, Am.cB, Am.cK, Am.cL, Am.cS, Am.cT, Am.cE, Am.aresults, Am.aresult, Am.codeKey, Am.frzTop, Am.spliceP, Nat.reduceAdd, Nat.reduceLeDiff, Nat.reduceBEq, Nat.reduceEqDiff, reduceIte, reduceCtorEq, Nat.reduceSub, Int.reduceBEq, Int.reduceSub, Int.reduceAdd, Int.reduceToNat, Int.reduceLT, Int.reduceLE, Int.reduceEq, Int.reduceNeg, Int.reduceBNe, Int.reduceGT, Int.reduceGE, Nat.reduceMul, Nat.reduceMod, Nat.reduceDiv]
theorem fits_kinds : ∀ {row : List V}, row.all fitV = true → FitsL row (kindsOf row)
  | [], _ => trivial
  | v :: l, h => by
    simp only [List.all_cons, Bool.and_eq_true] at h
    have h1 := h.1
    unfold fitV at h1
    simp only [Bool.and_eq_true, Bool.not_eq_true', decide_eq_false_iff_not] at h1
    exact ⟨⟨rfl, h1.1, by omega⟩, fits_kinds h.2⟩
theorem rightL_get {fs : List Fn} : ∀ (xs : List Fn) (i : Nat), rightL fs i xs = true → ∀ k f, xs[k]? = some f → rightF (fs.take (i + k)) f = true
  | [], i, _, k, f, h => by simp at h
  | x :: xs, i, hr, 0, f, h => by
    simp only [rightL, Bool.and_eq_true] at hr
    simp only [List.getElem?_cons_zero, Option.some.injEq] at h
    subst h
    exact hr.1
  | x :: xs, i, hr, k + 1, f, h => by
    simp only [rightL, Bool.and_eq_true] at hr
    simp only [List.getElem?_cons_succ] at h
    have := rightL_get xs (i + 1) hr.2 k f h
    rw [show i + (k + 1) = i + 1 + k by omega]
    exact this
theorem tyD_some {fs : List Fn} {cols params : List Int} {e : E} {t : Int} (h : tyD fs cols params e = some t) : levels e ≤ 12 ∧ ty fs cols params e = some t := by
  unfold tyD at h
  by_cases hl : levels e > 12
  · rw [if_pos hl] at h; cases h
  · rw [if_neg hl] at h; exact ⟨by omega, h⟩
theorem right_fns {fs : List Fn} (hF : fairB fs = true) (h : rightFs fs = true) : FnsOK fs := by
  intro n f hf
  unfold rightFs at h
  simp only [Bool.and_eq_true] at h
  have h1 := rightL_get fs 0 h.2 n f hf
  unfold rightF at h1
  simp only [Bool.and_eq_true, beq_iff_eq, Nat.zero_add] at h1
  exact ⟨(tyD_some h1.2.1).2, fair_parts hF f (List.mem_of_getElem? hf)⟩
/-- What good says. -/
structure Good (fs : List Fn) (e : E) (row : List V) (t : Int) : Prop where
  fair : fairB fs = true
  parts : parts e ≤ 1000000
  fits : FitsL row (kindsOf row)
  rows : row.length ≤ 20
  typed : typeOf fs (kindsOf row) [] e = some t
  ty : ty fs (kindsOf row) [] e = some t
  fns : FnsOK fs
  steps : stepsOf fs e ≤ 10000
  levels : levels e ≤ 12
theorem good_of {fs : List Fn} {e : E} {row : List V} (h : goodB fs e row = true) : ∃ t, Good fs e row t := by
  unfold goodB at h
  simp only [Bool.and_eq_true, Bool.not_eq_true', decide_eq_false_iff_not, decide_eq_true_eq] at h
  obtain ⟨h1, h2, h3, h4, h5⟩ := h
  obtain ⟨t, ht⟩ := Option.isSome_iff_exists.1 h4
  have ht' := ht
  unfold typeOf at ht'
  cases hr : rightFs fs with
  | false => rw [hr] at ht'; cases ht'
  | true =>
    rw [hr, if_pos rfl] at ht'
    obtain ⟨hlv, hty⟩ := tyD_some ht'
    unfold fitsB at h3
    simp only [Bool.and_eq_true, decide_eq_true_eq] at h3
    have hp : parts e ≤ 1000000 := by have := light_parts e 100 20 (by omega); omega
    exact ⟨t, ⟨h1, hp, fits_kinds h3.1, by omega, ht, hty, right_fns h1 hr, h5, hlv⟩⟩
theorem good_eval {fs : List Fn} {e : E} {row : List V} {t time : Int} (h : Good fs e row t) : EvGood fs time fs.length row [] e t :=
  ev_ok h.fns fs.length (Nat.le_refl _) h.fits (params := []) (ps := []) trivial e t h.parts (by rw [List.take_length]; exact h.ty)
end Go.Proofs.Ytjbmdfdgeioecaa.X
