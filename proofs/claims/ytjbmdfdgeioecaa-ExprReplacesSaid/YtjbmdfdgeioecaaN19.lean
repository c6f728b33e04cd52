/- Evaluation, by the code: numbers. -/
import Derived.Test.YtjbmdfdgeioecaaN18
namespace Go.Proofs.Ytjbmdfdgeioecaa.X
open Go.Proofs.Ytjbmdfdgeioecaa.Am Go.Proofs.Ytjbmdfdgeioecaa.F
set_option linter.unusedVariables false
set_option linter.unusedSimpArgs false
set_option maxRecDepth 100000
set_option maxHeartbeats 1000000
theorem cb68 : callable PP 68 = true := by kernel_rfl
theorem fv_8 {fs : List Fn} {time : Int} {row ps : List V} {e : E} {a b : V} (hk : e.op = 8) : FeGoal fs time row ps e [a, b] (nv (w64 (a.n + b.n))) := by
  unfold FeGoal
  have h := padd_ok a b
  generalize nv (w64 (a.n + b.n)) = v at h ⊢
  simp only [V.av, pr] at h ⊢
  rw [feval_e7]; simp only [feval_l7, feval_b, feval_rs, Try.f42, Int.lt_irrefl, F.EVT, Am.splice, Am.enterN, Am.freshMem, Am.cA, Am.cB, Am.cK, Am.cL, Am.cS, Am.cT, Am.cE, Am.aresults, Am.aresult, Am.codeKey, Am.frzTop, Am.spliceP, Nat.reduceAdd, Nat.reduceLeDiff, Nat.reduceBEq, Nat.reduceEqDiff, reduceIte, reduceCtorEq, Nat.reduceSub, Int.reduceBEq, Int.reduceSub, Int.reduceAdd, Int.reduceToNat, Int.reduceLT, Int.reduceLE, Int.reduceEq, Int.reduceNeg, Int.reduceBNe, Int.reduceGT, Int.reduceGE, Nat.reduceMul, Nat.reduceMod, Nat.reduceDiv]
  simp only [feval_k7, feval_b, feval_rs, Try.f42, hk, h, mkV0, mkV1, Option.getD_none, cb68, F.EVT, Am.splice, Am.enterN, Am.freshMem, Am.cA, Am.cB, Am.cK, Am.cL, Am.cS, Am.cT, Am.cE, Am.aresults, Am.aresult, Am.codeKey, Am.frzTop, Am.spliceP, Nat.reduceAdd, Nat.reduceLeDiff, Nat.reduceBEq, Nat.reduceEqDiff, reduceIte, reduceCtorEq, Nat.reduceSub, Int.reduceBEq, Int.reduceSub, Int.reduceAdd, Int.reduceToNat, Int.reduceLT, Int.reduceLE, Int.reduceEq, Int.reduceNeg, Int.reduceBNe, Int.reduceGT, Int.reduceGE, Nat.reduceMul, Nat.reduceMod, Nat.reduceDiv]
theorem cb69 : callable PP 69 = true := by kernel_rfl
theorem fv_9 {fs : List Fn} {time : Int} {row ps : List V} {e : E} {a b : V} (hk : e.op = 9) : FeGoal fs time row ps e [a, b] (nv (w64 (a.n - b.n))) := by
  unfold FeGoal
  have h := psub_ok a b
  generalize nv (w64 (a.n - b.n)) = v at h ⊢
  simp only [V.av, pr] at h ⊢
  rw [feval_e7]; simp only [feval_l7, feval_b, feval_rs, Try.f42, Int.lt_irrefl, F.EVT, Am.splice, Am.enterN, Am.freshMem, Am.cA, Am.cB, Am.cK, Am.cL, Am.cS, Am.cT, Am.cE, Am.aresults, Am.aresult, Am.codeKey, Am.frzTop, Am.spliceP, Nat.reduceAdd, Nat.reduceLeDiff, Nat.reduceBEq, Nat.reduceEqDiff, reduceIte, reduceCtorEq, Nat.reduceSub, Int.reduceBEq, Int.reduceSub, Int.reduceAdd, Int.reduceToNat, Int.reduceLT, Int.reduceLE, Int.reduceEq, Int.reduceNeg, Int.reduceBNe, Int.reduceGT, Int.reduceGE, Nat.reduceMul, Nat.reduceMod, Nat.reduceDiv]
  simp only [feval_k7, feval_b, feval_rs, Try.f42, hk, h, mkV0, mkV1, Option.getD_none, cb69, F.EVT, Am.splice, Am.enterN, Am.freshMem, Am.cA, Am.cB, Am.cK, Am.cL, Am.cS, Am.cT, Am.cE, Am.aresults, Am.aresult, Am.codeKey, Am.frzTop, Am.spliceP, Nat.reduceAdd, Nat.reduceLeDiff, Nat.reduceBEq, Nat.reduceEqDiff, reduceIte, reduceCtorEq, Nat.reduceSub, Int.reduceBEq, Int.reduceSub, Int.reduceAdd, Int.reduceToNat, Int.reduceLT, Int.reduceLE, Int.reduceEq, Int.reduceNeg, Int.reduceBNe, Int.reduceGT, Int.reduceGE, Nat.reduceMul, Nat.reduceMod, Nat.reduceDiv]
theorem cb70 : callable PP 70 = true := by kernel_rfl
theorem fv_10 {fs : List Fn} {time : Int} {row ps : List V} {e : E} {a b : V} (hk : e.op = 10) : FeGoal fs time row ps e [a, b] (nv (w64 (a.n * b.n))) := by
  unfold FeGoal
  have h := pmul_ok a b
  generalize nv (w64 (a.n * b.n)) = v at h ⊢
  simp only [V.av, pr] at h ⊢
  rw [feval_e7]; simp only [feval_l7, feval_b, feval_rs, Try.f42, Int.lt_irrefl, F.EVT, Am.splice, Am.enterN, Am.freshMem, Am.cA, Am.cB, Am.cK, Am.cL, Am.cS, Am.cT, Am.cE, Am.aresults, Am.aresult, Am.codeKey, Am.frzTop, Am.spliceP, Nat.reduceAdd, Nat.reduceLeDiff, Nat.reduceBEq, Nat.reduceEqDiff, reduceIte, reduceCtorEq, Nat.reduceSub, Int.reduceBEq, Int.reduceSub, Int.reduceAdd, Int.reduceToNat, Int.reduceLT, Int.reduceLE, Int.reduceEq, Int.reduceNeg, Int.reduceBNe, Int.reduceGT, Int.reduceGE, Nat.reduceMul, Nat.reduceMod, Nat.reduceDiv]
  simp only [feval_k7, feval_b, feval_rs, Try.f42, hk, h, mkV0, mkV1, Option.getD_none, cb70, F.EVT, Am.splice, Am.enterN, Am.freshMem, Am.cA, Am.cB, Am.cK, Am.cL, Am.cS, Am.cT, Am.cE, Am.aresults, Am.aresult, Am.codeKey, Am.frzTop, Am.spliceP, Nat.reduceAdd, Nat.reduceLeDiff, Nat.reduceBEq, Nat.reduceEqDiff, reduceIte, reduceCtorEq, Nat.reduceSub, Int.reduceBEq, Int.reduceSub, Int.reduceAdd, Int.reduceToNat, Int.reduceLT, Int.reduceLE, Int.reduceEq, Int.reduceNeg, Int.reduceBNe, Int.reduceGT, Int.reduceGE, Nat.reduceMul, Nat.reduceMod, Nat.reduceDiv]
theorem cb71 : callable PP 71 = true := by kernel_rfl
theorem fv_11 {fs : List Fn} {time : Int} {row ps : List V} {e : E} {a b : V} (hk : e.op = 11) : FeGoal fs time row ps e [a, b] (nv (if b.n = 0 then 0 else w64 (a.n.tdiv b.n))) := by
  unfold FeGoal
  have h := pdiv_ok a b
  generalize nv (if b.n = 0 then 0 else w64 (a.n.tdiv b.n)) = v at h ⊢
  simp only [V.av, pr] at h ⊢
  rw [feval_e7]; simp only [feval_l7, feval_b, feval_rs, Try.f42, Int.lt_irrefl, F.EVT, Am.splice, Am.enterN, Am.freshMem, Am.cA, Am.cB, Am.cK, Am.cL, Am.cS, Am.cT, Am.cE, Am.aresults, Am.aresult, Am.codeKey, Am.frzTop, Am.spliceP, Nat.reduceAdd, Nat.reduceLeDiff, Nat.reduceBEq, Nat.reduceEqDiff, reduceIte, reduceCtorEq, Nat.reduceSub, Int.reduceBEq, Int.reduceSub, Int.reduceAdd, Int.reduceToNat, Int.reduceLT, Int.reduceLE, Int.reduceEq, Int.reduceNeg, Int.reduceBNe, Int.reduceGT, Int.reduceGE, Nat.reduceMul, Nat.reduceMod, Nat.reduceDiv]
  simp only [feval_k7, feval_b, feval_rs, Try.f42, hk, h, mkV0, mkV1, Option.getD_none, cb71, F.EVT, Am.splice, Am.enterN, Am.freshMem, Am.cA, Am.cB, Am.cK, Am.cL, Am.cS, Am.cT, Am.cE, Am.aresults, Am.aresult, Am.codeKey, Am.frzTop, Am.spliceP, Nat.reduceAdd, Nat.reduceLeDiff, Nat.reduceBEq, Nat.reduceEqDiff, reduceIte, reduceCtorEq, Nat.reduceSub, Int.reduceBEq, Int.reduceSub, Int.reduceAdd, Int.reduceToNat, Int.reduceLT, Int.reduceLE, Int.reduceEq, Int.reduceNeg, Int.reduceBNe, Int.reduceGT, Int.reduceGE, Nat.reduceMul, Nat.reduceMod, Nat.reduceDiv]
theorem cb72 : callable PP 72 = true := by kernel_rfl
theorem fv_12 {fs : List Fn} {time : Int} {row ps : List V} {e : E} {a b : V} (hk : e.op = 12) : FeGoal fs time row ps e [a, b] (nv (if b.n = 0 then 0 else a.n.tmod b.n)) := by
  unfold FeGoal
  have h := pmod_ok a b
  generalize nv (if b.n = 0 then 0 else a.n.tmod b.n) = v at h ⊢
  simp only [V.av, pr] at h ⊢
  rw [feval_e7]; simp only [feval_l7, feval_b, feval_rs, Try.f42, Int.lt_irrefl, F.EVT, Am.splice, Am.enterN, Am.freshMem, Am.cA, Am.cB, Am.cK, Am.cL, Am.cS, Am.cT, Am.cE, Am.aresults, Am.aresult, Am.codeKey, Am.frzTop, Am.spliceP, Nat.reduceAdd, Nat.reduceLeDiff, Nat.reduceBEq, Nat.reduceEqDiff, reduceIte, reduceCtorEq, Nat.reduceSub, Int.reduceBEq, Int.reduceSub, Int.reduceAdd, Int.reduceToNat, Int.reduceLT, Int.reduceLE, Int.reduceEq, Int.reduceNeg, Int.reduceBNe, Int.reduceGT, Int.reduceGE, Nat.reduceMul, Nat.reduceMod, Nat.reduceDiv]
  simp only [feval_k7, feval_b, feval_rs, Try.f42, hk, h, mkV0, mkV1, Option.getD_none, cb72, F.EVT, Am.splice, Am.enterN, Am.freshMem, Am.cA, Am.cB, Am.cK, Am.cL, Am.cS, Am.cT, Am.cE, Am.aresults, Am.aresult, Am.codeKey, Am.frzTop, Am.spliceP, Nat.reduceAdd, Nat.reduceLeDiff, Nat.reduceBEq, Nat.reduceEqDiff, reduceIte, reduceCtorEq, Nat.reduceSub, Int.reduceBEq, Int.reduceSub, Int.reduceAdd, Int.reduceToNat, Int.reduceLT, Int.reduceLE, Int.reduceEq, Int.reduceNeg, Int.reduceBNe, Int.reduceGT, Int.reduceGE, Nat.reduceMul, Nat.reduceMod, Nat.reduceDiv]
end Go.Proofs.Ytjbmdfdgeioecaa.X
