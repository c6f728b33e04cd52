/- Evaluation, by the code: comparisons. -/
import Derived.Test.YtjbmdfdgeioecaaN18
namespace Go.Proofs.Ytjbmdfdgeioecaa.X
open Go.Proofs.Ytjbmdfdgeioecaa.Am Go.Proofs.Ytjbmdfdgeioecaa.F
set_option linter.unusedVariables false
set_option linter.unusedSimpArgs false
set_option maxRecDepth 100000
set_option maxHeartbeats 1000000
theorem cb73 : callable PP 73 = true := by kernel_rfl
theorem fv_13 {fs : List Fn} {time : Int} {row ps : List V} {e : E} {a b : V} (hk : e.op = 13) : FeGoal fs time row ps e [a, b] (tv (a.beq b)) := by
  unfold FeGoal
  have h := peq_ok a b
  generalize tv (a.beq b) = v at h ⊢
  simp only [V.av, pr] at h ⊢
  rw [feval_e7]; simp only [feval_l7, feval_b, feval_rs, Try.f42, Int.lt_irrefl, F.EVT, Am.splice, Am.enterN, Am.freshMem, Am.cA, Am.cB, Am.cK, Am.cL, Am.cS, Am.cT, Am.cE, Am.aresults, Am.aresult, Am.codeKey, Am.frzTop, Am.spliceP, Nat.reduceAdd, Nat.reduceLeDiff, Nat.reduceBEq, Nat.reduceEqDiff, reduceIte, reduceCtorEq, Nat.reduceSub, Int.reduceBEq, Int.reduceSub, Int.reduceAdd, Int.reduceToNat, Int.reduceLT, Int.reduceLE, Int.reduceEq, Int.reduceNeg, Int.reduceBNe, Int.reduceGT, Int.reduceGE, Nat.reduceMul, Nat.reduceMod, Nat.reduceDiv]
  simp only [feval_k7, feval_b, feval_rs, Try.f42, hk, h, mkV0, mkV1, Option.getD_none, cb73, F.EVT, Am.splice, Am.enterN, Am.freshMem, Am.cA, Am.cB, Am.cK, Am.cL, Am.cS, Am.cT, Am.cE, Am.aresults, Am.aresult, Am.codeKey, Am.frzTop, Am.spliceP, Nat.reduceAdd, Nat.reduceLeDiff, Nat.reduceBEq, Nat.reduceEqDiff, reduceIte, reduceCtorEq, Nat.reduceSub, Int.reduceBEq, Int.reduceSub, Int.reduceAdd, Int.reduceToNat, Int.reduceLT, Int.reduceLE, Int.reduceEq, Int.reduceNeg, Int.reduceBNe, Int.reduceGT, Int.reduceGE, Nat.reduceMul, Nat.reduceMod, Nat.reduceDiv]
theorem cb74 : callable PP 74 = true := by kernel_rfl
theorem fv_14 {fs : List Fn} {time : Int} {row ps : List V} {e : E} {a b : V} (hk : e.op = 14) : FeGoal fs time row ps e [a, b] (tv (!a.beq b)) := by
  unfold FeGoal
  have h := pne_ok a b
  generalize tv (!a.beq b) = v at h ⊢
  simp only [V.av, pr] at h ⊢
  rw [feval_e7]; simp only [feval_l7, feval_b, feval_rs, Try.f42, Int.lt_irrefl, F.EVT, Am.splice, Am.enterN, Am.freshMem, Am.cA, Am.cB, Am.cK, Am.cL, Am.cS, Am.cT, Am.cE, Am.aresults, Am.aresult, Am.codeKey, Am.frzTop, Am.spliceP, Nat.reduceAdd, Nat.reduceLeDiff, Nat.reduceBEq, Nat.reduceEqDiff, reduceIte, reduceCtorEq, Nat.reduceSub, Int.reduceBEq, Int.reduceSub, Int.reduceAdd, Int.reduceToNat, Int.reduceLT, Int.reduceLE, Int.reduceEq, Int.reduceNeg, Int.reduceBNe, Int.reduceGT, Int.reduceGE, Nat.reduceMul, Nat.reduceMod, Nat.reduceDiv]
  simp only [feval_k7, feval_b, feval_rs, Try.f42, hk, h, mkV0, mkV1, Option.getD_none, cb74, F.EVT, Am.splice, Am.enterN, Am.freshMem, Am.cA, Am.cB, Am.cK, Am.cL, Am.cS, Am.cT, Am.cE, Am.aresults, Am.aresult, Am.codeKey, Am.frzTop, Am.spliceP, Nat.reduceAdd, Nat.reduceLeDiff, Nat.reduceBEq, Nat.reduceEqDiff, reduceIte, reduceCtorEq, Nat.reduceSub, Int.reduceBEq, Int.reduceSub, Int.reduceAdd, Int.reduceToNat, Int.reduceLT, Int.reduceLE, Int.reduceEq, Int.reduceNeg, Int.reduceBNe, Int.reduceGT, Int.reduceGE, Nat.reduceMul, Nat.reduceMod, Nat.reduceDiv]
theorem cb75 : callable PP 75 = true := by kernel_rfl
theorem fv_15 {fs : List Fn} {time : Int} {row ps : List V} {e : E} {a b : V} (hk : e.op = 15) : FeGoal fs time row ps e [a, b] (tv (decide (vcmp a b < 0))) := by
  unfold FeGoal
  have h := plt_ok a b
  generalize tv (decide (vcmp a b < 0)) = v at h ⊢
  simp only [V.av, pr] at h ⊢
  rw [feval_e7]; simp only [feval_l7, feval_b, feval_rs, Try.f42, Int.lt_irrefl, F.EVT, Am.splice, Am.enterN, Am.freshMem, Am.cA, Am.cB, Am.cK, Am.cL, Am.cS, Am.cT, Am.cE, Am.aresults, Am.aresult, Am.codeKey, Am.frzTop, Am.spliceP, Nat.reduceAdd, Nat.reduceLeDiff, Nat.reduceBEq, Nat.reduceEqDiff, reduceIte, reduceCtorEq, Nat.reduceSub, Int.reduceBEq, Int.reduceSub, Int.reduceAdd, Int.reduceToNat, Int.reduceLT, Int.reduceLE, Int.reduceEq, Int.reduceNeg, Int.reduceBNe, Int.reduceGT, Int.reduceGE, Nat.reduceMul, Nat.reduceMod, Nat.reduceDiv]
  simp only [feval_k7, feval_b, feval_rs, Try.f42, hk, h, mkV0, mkV1, Option.getD_none, cb75, F.EVT, Am.splice, Am.enterN, Am.freshMem, Am.cA, Am.cB, Am.cK, Am.cL, Am.cS, Am.cT, Am.cE, Am.aresults, Am.aresult, Am.codeKey, Am.frzTop, Am.spliceP, Nat.reduceAdd, Nat.reduceLeDiff, Nat.reduceBEq, Nat.reduceEqDiff, reduceIte, reduceCtorEq, Nat.reduceSub, Int.reduceBEq, Int.reduceSub, Int.reduceAdd, Int.reduceToNat, Int.reduceLT, Int.reduceLE, Int.reduceEq, Int.reduceNeg, Int.reduceBNe, Int.reduceGT, Int.reduceGE, Nat.reduceMul, Nat.reduceMod, Nat.reduceDiv]
theorem cb76 : callable PP 76 = true := by kernel_rfl
theorem fv_16 {fs : List Fn} {time : Int} {row ps : List V} {e : E} {a b : V} (hk : e.op = 16) : FeGoal fs time row ps e [a, b] (tv (decide (vcmp a b ≤ 0))) := by
  unfold FeGoal
  have h := ple_ok a b
  generalize tv (decide (vcmp a b ≤ 0)) = v at h ⊢
  simp only [V.av, pr] at h ⊢
  rw [feval_e7]; simp only [feval_l7, feval_b, feval_rs, Try.f42, Int.lt_irrefl, F.EVT, Am.splice, Am.enterN, Am.freshMem, Am.cA, Am.cB, Am.cK, Am.cL, Am.cS, Am.cT, Am.cE, Am.aresults, Am.aresult, Am.codeKey, Am.frzTop, Am.spliceP, Nat.reduceAdd, Nat.reduceLeDiff, Nat.reduceBEq, Nat.reduceEqDiff, reduceIte, reduceCtorEq, Nat.reduceSub, Int.reduceBEq, Int.reduceSub, Int.reduceAdd, Int.reduceToNat, Int.reduceLT, Int.reduceLE, Int.reduceEq, Int.reduceNeg, Int.reduceBNe, Int.reduceGT, Int.reduceGE, Nat.reduceMul, Nat.reduceMod, Nat.reduceDiv]
  simp only [feval_k7, feval_b, feval_rs, Try.f42, hk, h, mkV0, mkV1, Option.getD_none, cb76, F.EVT, Am.splice, Am.enterN, Am.freshMem, Am.cA, Am.cB, Am.cK, Am.cL, Am.cS, Am.cT, Am.cE, Am.aresults, Am.aresult, Am.codeKey, Am.frzTop, Am.spliceP, Nat.reduceAdd, Nat.reduceLeDiff, Nat.reduceBEq, Nat.reduceEqDiff, reduceIte, reduceCtorEq, Nat.reduceSub, Int.reduceBEq, Int.reduceSub, Int.reduceAdd, Int.reduceToNat, Int.reduceLT, Int.reduceLE, Int.reduceEq, Int.reduceNeg, Int.reduceBNe, Int.reduceGT, Int.reduceGE, Nat.reduceMul, Nat.reduceMod, Nat.reduceDiv]
theorem cb77 : callable PP 77 = true := by kernel_rfl
theorem fv_17 {fs : List Fn} {time : Int} {row ps : List V} {e : E} {a b : V} (hk : e.op = 17) : FeGoal fs time row ps e [a, b] (tv (a.n == 1 && b.n == 1)) := by
  unfold FeGoal
  have h := pboth_ok a b
  generalize tv (a.n == 1 && b.n == 1) = v at h ⊢
  simp only [V.av, pr] at h ⊢
  rw [feval_e7]; simp only [feval_l7, feval_b, feval_rs, Try.f42, Int.lt_irrefl, F.EVT, Am.splice, Am.enterN, Am.freshMem, Am.cA, Am.cB, Am.cK, Am.cL, Am.cS, Am.cT, Am.cE, Am.aresults, Am.aresult, Am.codeKey, Am.frzTop, Am.spliceP, Nat.reduceAdd, Nat.reduceLeDiff, Nat.reduceBEq, Nat.reduceEqDiff, reduceIte, reduceCtorEq, Nat.reduceSub, Int.reduceBEq, Int.reduceSub, Int.reduceAdd, Int.reduceToNat, Int.reduceLT, Int.reduceLE, Int.reduceEq, Int.reduceNeg, Int.reduceBNe, Int.reduceGT, Int.reduceGE, Nat.reduceMul, Nat.reduceMod, Nat.reduceDiv]
  simp only [feval_k7, feval_b, feval_rs, Try.f42, hk, h, mkV0, mkV1, Option.getD_none, cb77, F.EVT, Am.splice, Am.enterN, Am.freshMem, Am.cA, Am.cB, Am.cK, Am.cL, Am.cS, Am.cT, Am.cE, Am.aresults, Am.aresult, Am.codeKey, Am.frzTop, Am.spliceP, Nat.reduceAdd, Nat.reduceLeDiff, Nat.reduceBEq, Nat.reduceEqDiff, reduceIte, reduceCtorEq, Nat.reduceSub, Int.reduceBEq, Int.reduceSub, Int.reduceAdd, Int.reduceToNat, Int.reduceLT, Int.reduceLE, Int.reduceEq, Int.reduceNeg, Int.reduceBNe, Int.reduceGT, Int.reduceGE, Nat.reduceMul, Nat.reduceMod, Nat.reduceDiv]
theorem cb78 : callable PP 78 = true := by kernel_rfl
theorem fv_18 {fs : List Fn} {time : Int} {row ps : List V} {e : E} {a b : V} (hk : e.op = 18) : FeGoal fs time row ps e [a, b] (tv (a.n == 1 || b.n == 1)) := by
  unfold FeGoal
  have h := pany_ok a b
  generalize tv (a.n == 1 || b.n == 1) = v at h ⊢
  simp only [V.av, pr] at h ⊢
  rw [feval_e7]; simp only [feval_l7, feval_b, feval_rs, Try.f42, Int.lt_irrefl, F.EVT, Am.splice, Am.enterN, Am.freshMem, Am.cA, Am.cB, Am.cK, Am.cL, Am.cS, Am.cT, Am.cE, Am.aresults, Am.aresult, Am.codeKey, Am.frzTop, Am.spliceP, Nat.reduceAdd, Nat.reduceLeDiff, Nat.reduceBEq, Nat.reduceEqDiff, reduceIte, reduceCtorEq, Nat.reduceSub, Int.reduceBEq, Int.reduceSub, Int.reduceAdd, Int.reduceToNat, Int.reduceLT, Int.reduceLE, Int.reduceEq, Int.reduceNeg, Int.reduceBNe, Int.reduceGT, Int.reduceGE, Nat.reduceMul, Nat.reduceMod, Nat.reduceDiv]
  simp only [feval_k7, feval_b, feval_rs, Try.f42, hk, h, mkV0, mkV1, Option.getD_none, cb78, F.EVT, Am.splice, Am.enterN, Am.freshMem, Am.cA, Am.cB, Am.cK, Am.cL, Am.cS, Am.cT, Am.cE, Am.aresults, Am.aresult, Am.codeKey, Am.frzTop, Am.spliceP, Nat.reduceAdd, Nat.reduceLeDiff, Nat.reduceBEq, Nat.reduceEqDiff, reduceIte, reduceCtorEq, Nat.reduceSub, Int.reduceBEq, Int.reduceSub, Int.reduceAdd, Int.reduceToNat, Int.reduceLT, Int.reduceLE, Int.reduceEq, Int.reduceNeg, Int.reduceBNe, Int.reduceGT, Int.reduceGE, Nat.reduceMul, Nat.reduceMod, Nat.reduceDiv]
theorem cb79 : callable PP 79 = true := by kernel_rfl
theorem fv_19 {fs : List Fn} {time : Int} {row ps : List V} {e : E} {a b : V} (hk : e.op = 19) (ha : a.s.size ≤ 1000000000) (hb : b.s.size ≤ 1000000000) : FeGoal fs time row ps e [a, b] ⟨1, 0, cut200 (a.s ++ b.s)⟩ := by
  unfold FeGoal
  have h := pjoin_ok a b ha hb
  generalize (V.mk 1 0 (cut200 (a.s ++ b.s))) = v at h ⊢
  simp only [V.av, pr] at h ⊢
  rw [feval_e7]; simp only [feval_l7, feval_b, feval_rs, Try.f42, Int.lt_irrefl, F.EVT, Am.splice, Am.enterN, Am.freshMem, Am.cA, Am.cB, Am.cK, Am.cL, Am.cS, Am.cT, Am.cE, Am.aresults, Am.aresult, Am.codeKey, Am.frzTop, Am.spliceP, Nat.reduceAdd, Nat.reduceLeDiff, Nat.reduceBEq, Nat.reduceEqDiff, reduceIte, reduceCtorEq, Nat.reduceSub, Int.reduceBEq, Int.reduceSub, Int.reduceAdd, Int.reduceToNat, Int.reduceLT, Int.reduceLE, Int.reduceEq, Int.reduceNeg, Int.reduceBNe, Int.reduceGT, Int.reduceGE, Nat.reduceMul, Nat.reduceMod, Nat.reduceDiv]
  simp only [feval_k7, feval_b, feval_rs, Try.f42, hk, h, mkV0, mkV1, Option.getD_none, cb79, F.EVT, Am.splice, Am.enterN, Am.freshMem, Am.cA, Am.cB, Am.cK, Am.cL, Am.cS, Am.cT, Am.cE, Am.aresults, Am.aresult, Am.codeKey, Am.frzTop, Am.spliceP, Nat.reduceAdd, Nat.reduceLeDiff, Nat.reduceBEq, Nat.reduceEqDiff, reduceIte, reduceCtorEq, Nat.reduceSub, Int.reduceBEq, Int.reduceSub, Int.reduceAdd, Int.reduceToNat, Int.reduceLT, Int.reduceLE, Int.reduceEq, Int.reduceNeg, Int.reduceBNe, Int.reduceGT, Int.reduceGE, Nat.reduceMul, Nat.reduceMod, Nat.reduceDiv]
end Go.Proofs.Ytjbmdfdgeioecaa.X
