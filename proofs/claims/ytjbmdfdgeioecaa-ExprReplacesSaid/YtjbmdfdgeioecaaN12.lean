/- good. -/
import Derived.Test.YtjbmdfdgeioecaaN11
namespace Go.Proofs.Ytjbmdfdgeioecaa.X
open Go.Proofs.Ytjbmdfdgeioecaa.Am Go.Proofs.Ytjbmdfdgeioecaa.F
set_option linter.unusedVariables false
set_option linter.unusedSimpArgs false
set_option maxRecDepth 100000
set_option maxHeartbeats 1000000
abbrev slV (l : List V) : AV := .pv (.slc (l.map V.pv))
theorem good_no {fs : List Fn} {e : E} {row : List V} (hn : fs.length ≤ LIM) (hr : row.length ≤ LIM) (h : (fairB fs && (!decide (light e 100 20 < 0) && fitsB row)) = false) : RR 10 [slF fs, e.av, slV row] [] = some (B false, []) := by
  have h1 := fair_ok fs hn
  have h2 := light_ok e 100 20 (by omega) (by omega) (by omega) (by omega)
  have h3 := fits_ok row hr
  simp only [E.av] at h2
  apply good_r
  cases hf : fairB fs
  · rw [hf] at h1
    simp only [good_b, good_h, good_rs, Try.f10, E.av, h1, F.EVT, Am.splice, Am.enterN, Am.freshMem, Am.cA, Am.cB, Am.cK, Am.cL, Am.cS, Am.cT, Am.cE, Am.aresults, Am.aresult, Am.codeKey, Am.frzTop, Am.spliceP, Nat.reduceAdd, Nat.reduceLeDiff, Nat.reduceBEq, Nat.reduceEqDiff, reduceIte, reduceCtorEq, Nat.reduceSub, Int.reduceBEq, Int.reduceSub, Int.reduceAdd, Int.reduceToNat, Int.reduceLT, Int.reduceLE, Int.reduceEq, Int.reduceNeg, Int.reduceBNe, Int.reduceGT, Int.reduceGE, Nat.reduceMul, Nat.reduceMod, Nat.reduceDiv]
    try rfl
  · rw [hf] at h1 h
    by_cases hl : light e 100 20 < 0
    · simp only [good_b, good_h, good_rs, Try.f10, E.av, h1, h2, hl, F.EVT, Am.splice, Am.enterN, Am.freshMem, Am.cA, Am.cB, Am.cK, Am.cL, Am.cS, Am.cT, Am.cE, Am.aresults, Am.aresult, Am.codeKey, Am.frzTop, Am.spliceP, Nat.reduceAdd, Nat.reduceLeDiff, Nat.reduceBEq, Nat.reduceEqDiff, reduceIte, reduceCtorEq, Nat.reduceSub, Int.reduceBEq, Int.reduceSub, Int.reduceAdd, Int.reduceToNat, Int.reduceLT, Int.reduceLE, Int.reduceEq, Int.reduceNeg, Int.reduceBNe, Int.reduceGT, Int.reduceGE, Nat.reduceMul, Nat.reduceMod, Nat.reduceDiv]
      try rfl
    · have hx : fitsB row = false := by simpa [hl] using h
      rw [hx] at h3
      simp only [good_b, good_h, good_rs, Try.f10, E.av, h1, h2, hl, h3, F.EVT, Am.splice, Am.enterN, Am.freshMem, Am.cA, Am.cB, Am.cK, Am.cL, Am.cS, Am.cT, Am.cE, Am.aresults, Am.aresult, Am.codeKey, Am.frzTop, Am.spliceP, Nat.reduceAdd, Nat.reduceLeDiff, Nat.reduceBEq, Nat.reduceEqDiff, reduceIte, reduceCtorEq, Nat.reduceSub, Int.reduceBEq, Int.reduceSub, Int.reduceAdd, Int.reduceToNat, Int.reduceLT, Int.reduceLE, Int.reduceEq, Int.reduceNeg, Int.reduceBNe, Int.reduceGT, Int.reduceGE, Nat.reduceMul, Nat.reduceMod, Nat.reduceDiv]
      try rfl
theorem good_ok {fs : List Fn} {e : E} {row : List V} (hn : fs.length ≤ LIM) (hr : row.length ≤ LIM) : RR 10 [slF fs, e.av, slV row] [] = some (B (goodB fs e row), []) := by
  cases h : fairB fs && (!decide (light e 100 20 < 0) && fitsB row)
  · rw [good_no hn hr h]
    unfold goodB
    have : (fairB fs && (!decide (light e 100 20 < 0) && (fitsB row && ((typeOf fs (kindsOf row) [] e).isSome && decide (stepsOf fs e ≤ 10000))))) = ((fairB fs && (!decide (light e 100 20 < 0) && fitsB row)) && ((typeOf fs (kindsOf row) [] e).isSome && decide (stepsOf fs e ≤ 10000))) := by
      cases fairB fs <;> cases fitsB row <;> simp
    rw [this, h]; rfl
  · simp only [Bool.and_eq_true, Bool.not_eq_true', decide_eq_false_iff_not] at h
    obtain ⟨hf, hl, hx⟩ := h
    have hgo : goodB fs e row = ((typeOf fs (kindsOf row) [] e).isSome && decide (stepsOf fs e ≤ 10000)) := by
      unfold goodB; rw [hf, hx]; simp [hl]
    have hp : parts e ≤ 1000000 := by have := light_parts e 100 20 (by omega); omega
    have hrow : row.length ≤ 1000000 := by unfold fitsB at hx; simp only [Bool.and_eq_true, decide_eq_true_eq] at hx; omega
    have hfl : fs.length ≤ 1000000 := by have := hf; unfold fairB at this; simp only [Bool.and_eq_true, decide_eq_true_eq] at this; omega
    have h1 := fair_ok fs hn
    have h2 := light_ok e 100 20 (by omega) (by omega) (by omega) (by omega)
    have h3 := fits_ok row hr
    have h4 := kinds_ok row hrow
    have h5 := rType_ok fs (kindsOf row) [] e hf hp
    have h6 := rSteps_ok (fs := fs) (e := e) hfl hp (fair_parts hf)
    rw [hf] at h1
    rw [hx] at h3
    simp only [E.av, tyAV, show slI [] = .pv (.slc []) from rfl] at h2 h5 h6
    rw [hgo]
    apply good_r
    cases ht : typeOf fs (kindsOf row) [] e with
    | none =>
      rw [ht] at h5
      simp only [Option.isSome_none] at h5
      simp only [good_b, good_h, good_rs, Try.f10, E.av, h1, h2, hl, h3, h4, h5, F.EVT, Am.splice, Am.enterN, Am.freshMem, Am.cA, Am.cB, Am.cK, Am.cL, Am.cS, Am.cT, Am.cE, Am.aresults, Am.aresult, Am.codeKey, Am.frzTop, Am.spliceP, Nat.reduceAdd, Nat.reduceLeDiff, Nat.reduceBEq, Nat.reduceEqDiff, reduceIte, reduceCtorEq, Nat.reduceSub, Int.reduceBEq, Int.reduceSub, Int.reduceAdd, Int.reduceToNat, Int.reduceLT, Int.reduceLE, Int.reduceEq, Int.reduceNeg, Int.reduceBNe, Int.reduceGT, Int.reduceGE, Nat.reduceMul, Nat.reduceMod, Nat.reduceDiv]
      try rfl
    | some u =>
      rw [ht] at h5
      simp only [Option.isSome_some] at h5
      simp only [good_b, good_h, good_rs, Try.f10, E.av, h1, h2, hl, h3, h4, h5, h6, F.EVT, Am.splice, Am.enterN, Am.freshMem, Am.cA, Am.cB, Am.cK, Am.cL, Am.cS, Am.cT, Am.cE, Am.aresults, Am.aresult, Am.codeKey, Am.frzTop, Am.spliceP, Nat.reduceAdd, Nat.reduceLeDiff, Nat.reduceBEq, Nat.reduceEqDiff, reduceIte, reduceCtorEq, Nat.reduceSub, Int.reduceBEq, Int.reduceSub, Int.reduceAdd, Int.reduceToNat, Int.reduceLT, Int.reduceLE, Int.reduceEq, Int.reduceNeg, Int.reduceBNe, Int.reduceGT, Int.reduceGE, Nat.reduceMul, Nat.reduceMod, Nat.reduceDiv]
      try rfl
end Go.Proofs.Ytjbmdfdgeioecaa.X
