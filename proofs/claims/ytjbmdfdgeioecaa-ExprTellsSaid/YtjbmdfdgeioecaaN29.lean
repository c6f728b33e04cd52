/- Values of operations on two values, by the answer of the document. -/
import Derived.Test.YtjbmdfdgeioecaaN28
namespace Go.Proofs.Ytjbmdfdgeioecaa.X
open Go.Proofs.Ytjbmdfdgeioecaa.Am Go.Proofs.Ytjbmdfdgeioecaa.F
set_option linter.unusedVariables false
set_option linter.unusedSimpArgs false
set_option maxRecDepth 100000
set_option maxHeartbeats 1000000
theorem ra_8 {e : E} {a b : V} (hk : e.op = 8) : RaGoal e [a, b] (nv (w64 (a.n + b.n))) := by
  apply rapply_r
  simp only [E.av, V.av, nv]
  simp only [rapply_b, rapply_h, rapply_rs, Try.f44, hk, mkW0, mkW1, F.EVT, Am.splice, Am.enterN, Am.freshMem, Am.cA, Am.cB, Am.cK, Am.cL, Am.cS, Am.cT, Am.cE, Am.aresults, Am.aresult, Am.codeKey, Nat.reduceAdd, Nat.reduceLeDiff, Nat.reduceBEq, Nat.reduceEqDiff, reduceIte, reduceCtorEq, Nat.reduceSub, Int.reduceBEq, Int.reduceSub, Int.reduceAdd, Int.reduceToNat, Int.reduceLT, Int.reduceLE, Int.reduceEq, Int.reduceNeg, Int.reduceBNe, Int.reduceGT, Int.reduceGE, Nat.reduceMul, Nat.reduceMod, Nat.reduceDiv]
  try rfl
theorem ra_9 {e : E} {a b : V} (hk : e.op = 9) : RaGoal e [a, b] (nv (w64 (a.n - b.n))) := by
  apply rapply_r
  simp only [E.av, V.av, nv]
  simp only [rapply_b, rapply_h, rapply_rs, Try.f44, hk, mkW0, mkW1, F.EVT, Am.splice, Am.enterN, Am.freshMem, Am.cA, Am.cB, Am.cK, Am.cL, Am.cS, Am.cT, Am.cE, Am.aresults, Am.aresult, Am.codeKey, Nat.reduceAdd, Nat.reduceLeDiff, Nat.reduceBEq, Nat.reduceEqDiff, reduceIte, reduceCtorEq, Nat.reduceSub, Int.reduceBEq, Int.reduceSub, Int.reduceAdd, Int.reduceToNat, Int.reduceLT, Int.reduceLE, Int.reduceEq, Int.reduceNeg, Int.reduceBNe, Int.reduceGT, Int.reduceGE, Nat.reduceMul, Nat.reduceMod, Nat.reduceDiv]
  try rfl
theorem ra_10 {e : E} {a b : V} (hk : e.op = 10) : RaGoal e [a, b] (nv (w64 (a.n * b.n))) := by
  apply rapply_r
  simp only [E.av, V.av, nv]
  simp only [rapply_b, rapply_h, rapply_rs, Try.f44, hk, mkW0, mkW1, F.EVT, Am.splice, Am.enterN, Am.freshMem, Am.cA, Am.cB, Am.cK, Am.cL, Am.cS, Am.cT, Am.cE, Am.aresults, Am.aresult, Am.codeKey, Nat.reduceAdd, Nat.reduceLeDiff, Nat.reduceBEq, Nat.reduceEqDiff, reduceIte, reduceCtorEq, Nat.reduceSub, Int.reduceBEq, Int.reduceSub, Int.reduceAdd, Int.reduceToNat, Int.reduceLT, Int.reduceLE, Int.reduceEq, Int.reduceNeg, Int.reduceBNe, Int.reduceGT, Int.reduceGE, Nat.reduceMul, Nat.reduceMod, Nat.reduceDiv]
  try rfl
theorem ra_11 {e : E} {a b : V} (hk : e.op = 11) : RaGoal e [a, b] (nv (if b.n = 0 then 0 else w64 (a.n.tdiv b.n))) := by
  apply rapply_r
  by_cases h : b.n = 0
  · rw [if_pos h]
    simp only [E.av, V.av, nv]
    simp only [rapply_b, rapply_h, rapply_rs, Try.f44, hk, mkW0, mkW1, h, F.EVT, Am.splice, Am.enterN, Am.freshMem, Am.cA, Am.cB, Am.cK, Am.cL, Am.cS, Am.cT, Am.cE, Am.aresults, Am.aresult, Am.codeKey, Nat.reduceAdd, Nat.reduceLeDiff, Nat.reduceBEq, Nat.reduceEqDiff, reduceIte, reduceCtorEq, Nat.reduceSub, Int.reduceBEq, Int.reduceSub, Int.reduceAdd, Int.reduceToNat, Int.reduceLT, Int.reduceLE, Int.reduceEq, Int.reduceNeg, Int.reduceBNe, Int.reduceGT, Int.reduceGE, Nat.reduceMul, Nat.reduceMod, Nat.reduceDiv]
    try rfl
  · rw [if_neg h]
    have h' : (b.n == 0) = false := by simpa using h
    simp only [E.av, V.av, nv]
    simp only [rapply_b, rapply_h, rapply_rs, Try.f44, hk, mkW0, mkW1, h, h', F.EVT, Am.splice, Am.enterN, Am.freshMem, Am.cA, Am.cB, Am.cK, Am.cL, Am.cS, Am.cT, Am.cE, Am.aresults, Am.aresult, Am.codeKey, Nat.reduceAdd, Nat.reduceLeDiff, Nat.reduceBEq, Nat.reduceEqDiff, reduceIte, reduceCtorEq, Nat.reduceSub, Int.reduceBEq, Int.reduceSub, Int.reduceAdd, Int.reduceToNat, Int.reduceLT, Int.reduceLE, Int.reduceEq, Int.reduceNeg, Int.reduceBNe, Int.reduceGT, Int.reduceGE, Nat.reduceMul, Nat.reduceMod, Nat.reduceDiv]
    try rfl
theorem ra_12 {e : E} {a b : V} (hk : e.op = 12) : RaGoal e [a, b] (nv (if b.n = 0 then 0 else a.n.tmod b.n)) := by
  apply rapply_r
  by_cases h : b.n = 0
  · rw [if_pos h]
    simp only [E.av, V.av, nv]
    simp only [rapply_b, rapply_h, rapply_rs, Try.f44, hk, mkW0, mkW1, h, F.EVT, Am.splice, Am.enterN, Am.freshMem, Am.cA, Am.cB, Am.cK, Am.cL, Am.cS, Am.cT, Am.cE, Am.aresults, Am.aresult, Am.codeKey, Nat.reduceAdd, Nat.reduceLeDiff, Nat.reduceBEq, Nat.reduceEqDiff, reduceIte, reduceCtorEq, Nat.reduceSub, Int.reduceBEq, Int.reduceSub, Int.reduceAdd, Int.reduceToNat, Int.reduceLT, Int.reduceLE, Int.reduceEq, Int.reduceNeg, Int.reduceBNe, Int.reduceGT, Int.reduceGE, Nat.reduceMul, Nat.reduceMod, Nat.reduceDiv]
    try rfl
  · rw [if_neg h]
    have h' : (b.n == 0) = false := by simpa using h
    simp only [E.av, V.av, nv]
    simp only [rapply_b, rapply_h, rapply_rs, Try.f44, hk, mkW0, mkW1, h, h', F.EVT, Am.splice, Am.enterN, Am.freshMem, Am.cA, Am.cB, Am.cK, Am.cL, Am.cS, Am.cT, Am.cE, Am.aresults, Am.aresult, Am.codeKey, Nat.reduceAdd, Nat.reduceLeDiff, Nat.reduceBEq, Nat.reduceEqDiff, reduceIte, reduceCtorEq, Nat.reduceSub, Int.reduceBEq, Int.reduceSub, Int.reduceAdd, Int.reduceToNat, Int.reduceLT, Int.reduceLE, Int.reduceEq, Int.reduceNeg, Int.reduceBNe, Int.reduceGT, Int.reduceGE, Nat.reduceMul, Nat.reduceMod, Nat.reduceDiv]
    try rfl
theorem ra_13 {e : E} {a b : V} (hk : e.op = 13) : RaGoal e [a, b] (tv (a.beq b)) := by
  have h := rtruth_ok (a.beq b)
  apply rapply_r
  generalize tv (a.beq b) = v at h ⊢
  unfold V.beq at h
  simp only [E.av, V.av] at h ⊢
  simp only [rapply_b, rapply_h, rapply_rs, Try.f44, hk, mkW0, mkW1, h, F.EVT, Am.splice, Am.enterN, Am.freshMem, Am.cA, Am.cB, Am.cK, Am.cL, Am.cS, Am.cT, Am.cE, Am.aresults, Am.aresult, Am.codeKey, Nat.reduceAdd, Nat.reduceLeDiff, Nat.reduceBEq, Nat.reduceEqDiff, reduceIte, reduceCtorEq, Nat.reduceSub, Int.reduceBEq, Int.reduceSub, Int.reduceAdd, Int.reduceToNat, Int.reduceLT, Int.reduceLE, Int.reduceEq, Int.reduceNeg, Int.reduceBNe, Int.reduceGT, Int.reduceGE, Nat.reduceMul, Nat.reduceMod, Nat.reduceDiv]
theorem ra_14 {e : E} {a b : V} (hk : e.op = 14) : RaGoal e [a, b] (tv (!a.beq b)) := by
  have h := rtruth_ok (!a.beq b)
  apply rapply_r
  generalize tv (!a.beq b) = v at h ⊢
  unfold V.beq at h
  simp only [E.av, V.av] at h ⊢
  simp only [rapply_b, rapply_h, rapply_rs, Try.f44, hk, mkW0, mkW1, h, F.EVT, Am.splice, Am.enterN, Am.freshMem, Am.cA, Am.cB, Am.cK, Am.cL, Am.cS, Am.cT, Am.cE, Am.aresults, Am.aresult, Am.codeKey, Nat.reduceAdd, Nat.reduceLeDiff, Nat.reduceBEq, Nat.reduceEqDiff, reduceIte, reduceCtorEq, Nat.reduceSub, Int.reduceBEq, Int.reduceSub, Int.reduceAdd, Int.reduceToNat, Int.reduceLT, Int.reduceLE, Int.reduceEq, Int.reduceNeg, Int.reduceBNe, Int.reduceGT, Int.reduceGE, Nat.reduceMul, Nat.reduceMod, Nat.reduceDiv]
theorem ra_15 {e : E} {a b : V} {t : Int} (ha : OkV t a) (hb : OkV t b) (hk : e.op = 15) : RaGoal e [a, b] (tv (decide (vcmp a b < 0))) := by
  have h := rtruth_ok (decide (vcmp a b < 0))
  have h2 := rless_ok a b
  rw [less_vcmp ha hb] at h2
  apply rapply_r
  generalize tv (decide (vcmp a b < 0)) = v at h ⊢
  generalize decide (vcmp a b < 0) = bb at h h2
  simp only [E.av, V.av] at h ⊢
  simp only [rapply_b, rapply_h, rapply_rs, Try.f44, hk, mkW0, mkW1, h, h2, F.EVT, Am.splice, Am.enterN, Am.freshMem, Am.cA, Am.cB, Am.cK, Am.cL, Am.cS, Am.cT, Am.cE, Am.aresults, Am.aresult, Am.codeKey, Nat.reduceAdd, Nat.reduceLeDiff, Nat.reduceBEq, Nat.reduceEqDiff, reduceIte, reduceCtorEq, Nat.reduceSub, Int.reduceBEq, Int.reduceSub, Int.reduceAdd, Int.reduceToNat, Int.reduceLT, Int.reduceLE, Int.reduceEq, Int.reduceNeg, Int.reduceBNe, Int.reduceGT, Int.reduceGE, Nat.reduceMul, Nat.reduceMod, Nat.reduceDiv]
theorem ra_16 {e : E} {a b : V} {t : Int} (ha : OkV t a) (hb : OkV t b) (hk : e.op = 16) : RaGoal e [a, b] (tv (decide (vcmp a b ≤ 0))) := by
  have h := rtruth_ok (!lessV b a)
  have h2 := rless_ok b a
  rw [← nless_vcmp ha hb]
  apply rapply_r
  generalize tv (!lessV b a) = v at h ⊢
  generalize lessV b a = bb at h h2
  simp only [E.av, V.av] at h ⊢
  simp only [rapply_b, rapply_h, rapply_rs, Try.f44, hk, mkW0, mkW1, h, h2, F.EVT, Am.splice, Am.enterN, Am.freshMem, Am.cA, Am.cB, Am.cK, Am.cL, Am.cS, Am.cT, Am.cE, Am.aresults, Am.aresult, Am.codeKey, Nat.reduceAdd, Nat.reduceLeDiff, Nat.reduceBEq, Nat.reduceEqDiff, reduceIte, reduceCtorEq, Nat.reduceSub, Int.reduceBEq, Int.reduceSub, Int.reduceAdd, Int.reduceToNat, Int.reduceLT, Int.reduceLE, Int.reduceEq, Int.reduceNeg, Int.reduceBNe, Int.reduceGT, Int.reduceGE, Nat.reduceMul, Nat.reduceMod, Nat.reduceDiv]
theorem ra_17 {e : E} {a b : V} (hk : e.op = 17) : RaGoal e [a, b] (tv (a.n == 1 && b.n == 1)) := by
  have h := rtruth_ok (a.n == 1 && b.n == 1)
  apply rapply_r
  generalize tv (a.n == 1 && b.n == 1) = v at h ⊢
  simp only [E.av, V.av] at h ⊢
  cases h1 : a.n == 1
  · rw [h1] at h
    simp only [Bool.false_and, Bool.false_or] at h
    simp only [rapply_b, rapply_h, rapply_rs, Try.f44, hk, mkW0, mkW1, h, h1, F.EVT, Am.splice, Am.enterN, Am.freshMem, Am.cA, Am.cB, Am.cK, Am.cL, Am.cS, Am.cT, Am.cE, Am.aresults, Am.aresult, Am.codeKey, Nat.reduceAdd, Nat.reduceLeDiff, Nat.reduceBEq, Nat.reduceEqDiff, reduceIte, reduceCtorEq, Nat.reduceSub, Int.reduceBEq, Int.reduceSub, Int.reduceAdd, Int.reduceToNat, Int.reduceLT, Int.reduceLE, Int.reduceEq, Int.reduceNeg, Int.reduceBNe, Int.reduceGT, Int.reduceGE, Nat.reduceMul, Nat.reduceMod, Nat.reduceDiv]
  · rw [h1] at h
    simp only [Bool.true_and, Bool.true_or] at h
    simp only [rapply_b, rapply_h, rapply_rs, Try.f44, hk, mkW0, mkW1, h, h1, F.EVT, Am.splice, Am.enterN, Am.freshMem, Am.cA, Am.cB, Am.cK, Am.cL, Am.cS, Am.cT, Am.cE, Am.aresults, Am.aresult, Am.codeKey, Nat.reduceAdd, Nat.reduceLeDiff, Nat.reduceBEq, Nat.reduceEqDiff, reduceIte, reduceCtorEq, Nat.reduceSub, Int.reduceBEq, Int.reduceSub, Int.reduceAdd, Int.reduceToNat, Int.reduceLT, Int.reduceLE, Int.reduceEq, Int.reduceNeg, Int.reduceBNe, Int.reduceGT, Int.reduceGE, Nat.reduceMul, Nat.reduceMod, Nat.reduceDiv]
theorem ra_18 {e : E} {a b : V} (hk : e.op = 18) : RaGoal e [a, b] (tv (a.n == 1 || b.n == 1)) := by
  have h := rtruth_ok (a.n == 1 || b.n == 1)
  apply rapply_r
  generalize tv (a.n == 1 || b.n == 1) = v at h ⊢
  simp only [E.av, V.av] at h ⊢
  cases h1 : a.n == 1
  · rw [h1] at h
    simp only [Bool.false_and, Bool.false_or] at h
    simp only [rapply_b, rapply_h, rapply_rs, Try.f44, hk, mkW0, mkW1, h, h1, F.EVT, Am.splice, Am.enterN, Am.freshMem, Am.cA, Am.cB, Am.cK, Am.cL, Am.cS, Am.cT, Am.cE, Am.aresults, Am.aresult, Am.codeKey, Nat.reduceAdd, Nat.reduceLeDiff, Nat.reduceBEq, Nat.reduceEqDiff, reduceIte, reduceCtorEq, Nat.reduceSub, Int.reduceBEq, Int.reduceSub, Int.reduceAdd, Int.reduceToNat, Int.reduceLT, Int.reduceLE, Int.reduceEq, Int.reduceNeg, Int.reduceBNe, Int.reduceGT, Int.reduceGE, Nat.reduceMul, Nat.reduceMod, Nat.reduceDiv]
  · rw [h1] at h
    simp only [Bool.true_and, Bool.true_or] at h
    simp only [rapply_b, rapply_h, rapply_rs, Try.f44, hk, mkW0, mkW1, h, h1, F.EVT, Am.splice, Am.enterN, Am.freshMem, Am.cA, Am.cB, Am.cK, Am.cL, Am.cS, Am.cT, Am.cE, Am.aresults, Am.aresult, Am.codeKey, Nat.reduceAdd, Nat.reduceLeDiff, Nat.reduceBEq, Nat.reduceEqDiff, reduceIte, reduceCtorEq, Nat.reduceSub, Int.reduceBEq, Int.reduceSub, Int.reduceAdd, Int.reduceToNat, Int.reduceLT, Int.reduceLE, Int.reduceEq, Int.reduceNeg, Int.reduceBNe, Int.reduceGT, Int.reduceGE, Nat.reduceMul, Nat.reduceMod, Nat.reduceDiv]
theorem ra_19 {e : E} {a b : V} (hk : e.op = 19) (ha : a.s.size ≤ 1000000000) (hb : b.s.size ≤ 1000000000) : RaGoal e [a, b] ⟨1, 0, cut200 (a.s ++ b.s)⟩ := by
  have h : a.s.size + b.s.size ≤ 9223372036854775807 := by omega
  apply rapply_r
  simp only [E.av, V.av]
  simp only [rapply_b, rapply_h, rapply_rs, Try.f44, hk, mkW0, mkW1, h, min200, min200_ok, Int.toNat_natCast, F.EVT, Am.splice, Am.enterN, Am.freshMem, Am.cA, Am.cB, Am.cK, Am.cL, Am.cS, Am.cT, Am.cE, Am.aresults, Am.aresult, Am.codeKey, Nat.reduceAdd, Nat.reduceLeDiff, Nat.reduceBEq, Nat.reduceEqDiff, reduceIte, reduceCtorEq, Nat.reduceSub, Int.reduceBEq, Int.reduceSub, Int.reduceAdd, Int.reduceToNat, Int.reduceLT, Int.reduceLE, Int.reduceEq, Int.reduceNeg, Int.reduceBNe, Int.reduceGT, Int.reduceGE, Nat.reduceMul, Nat.reduceMod, Nat.reduceDiv]
  try rfl
end Go.Proofs.Ytjbmdfdgeioecaa.X
