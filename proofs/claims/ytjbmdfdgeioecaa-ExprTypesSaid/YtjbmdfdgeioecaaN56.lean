/- ExprTypes: what the law gives. -/
import Derived.Test.YtjbmdfdgeioecaaSmall
import Derived.Test.YtjbmdfdgeioecaaN17
import Derived.Test.YtjbmdfdgeioecaaN50
import Derived.Test.YtjbmdfdgeioecaaN55
namespace Go.Proofs.Ytjbmdfdgeioecaa.X
open Go.Proofs.Ytjbmdfdgeioecaa.Am Go.Proofs.Ytjbmdfdgeioecaa.F
set_option linter.unusedVariables false
set_option linter.unusedSimpArgs false
set_option maxRecDepth 100000
set_option maxHeartbeats 1000000
theorem types_ok {fs : List Fn} {cols params : List Int} {e f : E} (hn : fs.length ≤ LIM) (hw : wfC e) : RR 7 [slF fs, slI cols, slI params, e.av, f.av] [] = some (B true, []) := by
  have hf := fair_ok fs hn
  have hle := light_ok e 100 20 (by omega) (by omega) (by omega) (by omega)
  have hlf := light_ok f 100 20 (by omega) (by omega) (by omega) (by omega)
  have hcl := ints_len cols
  have hpl := ints_len params
  simp only [av_e e, av_e f] at hle hlf ⊢
  apply lTypes_r
  cases hfb : fairB fs
  · rw [hfb] at hf
    simp only [lTypes_b, lTypes_h, lTypes_rs, Try.f7, small_ok, hf, F.EVT, Am.splice, Am.enterN, Am.freshMem, Am.cA, Am.cB, Am.cK, Am.cL, Am.cS, Am.cT, Am.cE, Am.aresults, Am.aresult, Am.codeKey, Am.frzTop, Am.spliceP, Nat.reduceAdd, Nat.reduceLeDiff, Nat.reduceBEq, Nat.reduceEqDiff, reduceIte, reduceCtorEq, Nat.reduceSub, Int.reduceBEq, Int.reduceSub, Int.reduceAdd, Int.reduceToNat, Int.reduceLT, Int.reduceLE, Int.reduceEq, Int.reduceNeg, Int.reduceBNe, Int.reduceGT, Int.reduceGE, Nat.reduceMul, Nat.reduceMod, Nat.reduceDiv]
    try rfl
  rw [hfb] at hf
  by_cases h1 : light e 100 20 < 0
  · simp only [lTypes_b, lTypes_h, lTypes_rs, Try.f7, small_ok, hf, hle, h1, F.EVT, Am.splice, Am.enterN, Am.freshMem, Am.cA, Am.cB, Am.cK, Am.cL, Am.cS, Am.cT, Am.cE, Am.aresults, Am.aresult, Am.codeKey, Am.frzTop, Am.spliceP, Nat.reduceAdd, Nat.reduceLeDiff, Nat.reduceBEq, Nat.reduceEqDiff, reduceIte, reduceCtorEq, Nat.reduceSub, Int.reduceBEq, Int.reduceSub, Int.reduceAdd, Int.reduceToNat, Int.reduceLT, Int.reduceLE, Int.reduceEq, Int.reduceNeg, Int.reduceBNe, Int.reduceGT, Int.reduceGE, Nat.reduceMul, Nat.reduceMod, Nat.reduceDiv]
    try rfl
  by_cases h2 : light f 100 20 < 0
  · simp only [lTypes_b, lTypes_h, lTypes_rs, Try.f7, small_ok, hf, hle, h1, hlf, h2, F.EVT, Am.splice, Am.enterN, Am.freshMem, Am.cA, Am.cB, Am.cK, Am.cL, Am.cS, Am.cT, Am.cE, Am.aresults, Am.aresult, Am.codeKey, Am.frzTop, Am.spliceP, Nat.reduceAdd, Nat.reduceLeDiff, Nat.reduceBEq, Nat.reduceEqDiff, reduceIte, reduceCtorEq, Nat.reduceSub, Int.reduceBEq, Int.reduceSub, Int.reduceAdd, Int.reduceToNat, Int.reduceLT, Int.reduceLE, Int.reduceEq, Int.reduceNeg, Int.reduceBNe, Int.reduceGT, Int.reduceGE, Nat.reduceMul, Nat.reduceMod, Nat.reduceDiv]
    try rfl
  by_cases h3 : (cols.length : Int) > 20
  · simp only [lTypes_b, lTypes_h, lTypes_rs, Try.f7, small_ok, hf, hle, h1, hlf, h2, hcl, h3, F.EVT, Am.splice, Am.enterN, Am.freshMem, Am.cA, Am.cB, Am.cK, Am.cL, Am.cS, Am.cT, Am.cE, Am.aresults, Am.aresult, Am.codeKey, Am.frzTop, Am.spliceP, Nat.reduceAdd, Nat.reduceLeDiff, Nat.reduceBEq, Nat.reduceEqDiff, reduceIte, reduceCtorEq, Nat.reduceSub, Int.reduceBEq, Int.reduceSub, Int.reduceAdd, Int.reduceToNat, Int.reduceLT, Int.reduceLE, Int.reduceEq, Int.reduceNeg, Int.reduceBNe, Int.reduceGT, Int.reduceGE, Nat.reduceMul, Nat.reduceMod, Nat.reduceDiv]
    try rfl
  by_cases h4 : (params.length : Int) > 20
  · simp only [lTypes_b, lTypes_h, lTypes_rs, Try.f7, small_ok, hf, hle, h1, hlf, h2, hcl, h3, hpl, h4, F.EVT, Am.splice, Am.enterN, Am.freshMem, Am.cA, Am.cB, Am.cK, Am.cL, Am.cS, Am.cT, Am.cE, Am.aresults, Am.aresult, Am.codeKey, Am.frzTop, Am.spliceP, Nat.reduceAdd, Nat.reduceLeDiff, Nat.reduceBEq, Nat.reduceEqDiff, reduceIte, reduceCtorEq, Nat.reduceSub, Int.reduceBEq, Int.reduceSub, Int.reduceAdd, Int.reduceToNat, Int.reduceLT, Int.reduceLE, Int.reduceEq, Int.reduceNeg, Int.reduceBNe, Int.reduceGT, Int.reduceGE, Nat.reduceMul, Nat.reduceMod, Nat.reduceDiv]
    try rfl
  have hp : parts e ≤ 1000000 := by have := light_parts e 100 20 (by omega); omega
  have g1 := xType_ok fs cols params e hfb hp
  have g2 := rType_ok fs cols params e hfb hp
  have g3 := xRight_ok fs hfb
  have g4 := rRight_ok fs hfb
  have g5 := xReads_ok hp hw
  rw [reads_same] at g5
  have g6 := rReads_ok e hp
  have hrl := rdE_len e
  have g7 := ints_same (l := rdE e) (by omega)
  have g8 := xSame_ok e hp f
  have g9 := rSameG_ok e hp f
  have g10 := xSame_ok e hp e
  rw [sameE_refl] at g10
  simp only [tyAV] at g1 g2
  generalize (typeOf fs cols params e).isSome = b1 at g1 g2
  generalize (typeOf fs cols params e).getD 0 = t1 at g1 g2
  generalize rightFs fs = b2 at g3 g4
  generalize rdE e = l at g5 g6 g7
  generalize sameE e f = b3 at g8 g9
  simp only [av_e e, av_e f] at g1 g2 g5 g6 g8 g9 g10
  simp only [lTypes_b, lTypes_h, lTypes_rs, Try.f7, small_ok, hf, hle, h1, hlf, h2, hcl, h3, hpl, h4, g1, g2, g3, g4, g5, g6, g7, g8, g9, g10, beq_self_eq_true, F.EVT, Am.splice, Am.enterN, Am.freshMem, Am.cA, Am.cB, Am.cK, Am.cL, Am.cS, Am.cT, Am.cE, Am.aresults, Am.aresult, Am.codeKey, Am.frzTop, Am.spliceP, Nat.reduceAdd, Nat.reduceLeDiff, Nat.reduceBEq, Nat.reduceEqDiff, reduceIte, reduceCtorEq, Nat.reduceSub, Int.reduceBEq, Int.reduceSub, Int.reduceAdd, Int.reduceToNat, Int.reduceLT, Int.reduceLE, Int.reduceEq, Int.reduceNeg, Int.reduceBNe, Int.reduceGT, Int.reduceGE, Nat.reduceMul, Nat.reduceMod, Nat.reduceDiv]
  try rfl
end Go.Proofs.Ytjbmdfdgeioecaa.X
