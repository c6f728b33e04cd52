/- The time, by the code: the closure that looks at one part. -/
import Derived.Test.YtjbmdfdgeioecaaN45
namespace Go.Proofs.Ytjbmdfdgeioecaa.X
open Go.Proofs.Ytjbmdfdgeioecaa.Am Go.Proofs.Ytjbmdfdgeioecaa.F
set_option linter.unusedVariables false
set_option linter.unusedSimpArgs false
set_option maxRecDepth 100000
set_option maxHeartbeats 1000000
def selfT (tl : List Bool) (e : E) : Bool := (e.op == 5) || (decide (e.op = 22 ∧ 0 ≤ e.n ∧ e.n < tl.length) && tl.getD e.n.toNat false)
theorem timedE_self (tl : List Bool) (e : E) : timedE tl e = (selfT tl e || timedL tl e.args) := by rw [timedE_eq]; unfold selfT; rw [Bool.or_assoc]
theorem n12 (n : Nat) : (1 = n + 1 + 1) = False := by simp
theorem index_bow {l : List Bool} {n : Int} {o : Bool} {d s : Nat} (h0 : 0 ≤ n) (h : l[n.toNat]? = some o) : indexC 1 (.own (some d) s (bols l)) n = some (.eptr [.bool o]) := by
  simp [indexC, AV.slc?, h, h0, bols, PV.cells]
theorem mkOwn_bol (s : Nat) (b : Bool) (l : List Bool) : mkOwn s (bols (b :: l)) = .own none s (bols (b :: l)) := rfl
theorem timed11_ok (e : E) (ma mb : Mem) (ms : List Mem) (b : Bool) (tl : List Bool) (h1 : varAt (ma :: mb :: ms) 1 4 = some [B b]) (h2 : varAt (ma :: mb :: ms) 0 5 = some [mkOwn 22 (bols tl)]) (ht : e.op = 22 → 0 ≤ e.n ∧ e.n < tl.length) :
    RR 53 [e.av, .ptr (some 1) 4 0, .ptr (some 0) 5 0] (ma :: mb :: ms) = some (.tup [], setVar (ma :: mb :: ms) 1 4 [B (b || selfT tl e)]) := by
  apply timed11_r
  cases b
  · by_cases h5 : e.op = 5
    · have hs : selfT tl e = true := by unfold selfT; simp [h5]
      rw [hs]
      simp only [av_e e]
      simp only [timed11_b, timed11_h, timed11_rs, Try.f53, h1, h5, n01, n12, List.length_cons, F.EVT, Am.splice, Am.enterN, Am.freshMem, Am.cA, Am.cB, Am.cK, Am.cL, Am.cS, Am.cT, Am.cE, Am.aresults, Am.aresult, Am.codeKey, Am.frzTop, Am.spliceP, Nat.reduceAdd, Nat.reduceLeDiff, Nat.reduceBEq, Nat.reduceEqDiff, reduceIte, reduceCtorEq, Nat.reduceSub, Int.reduceBEq, Int.reduceSub, Int.reduceAdd, Int.reduceToNat, Int.reduceLT, Int.reduceLE, Int.reduceEq, Int.reduceNeg, Int.reduceBNe, Int.reduceGT, Int.reduceGE, Nat.reduceMul, Nat.reduceMod, Nat.reduceDiv]
      try rfl
    · by_cases h22 : e.op = 22
      · obtain ⟨h0, hlt⟩ := ht h22
        have hg : tl[e.n.toNat]? = some (tl[e.n.toNat]'(by omega)) := List.getElem?_eq_getElem (by omega)
        have hs : selfT tl e = tl[e.n.toNat]'(by omega) := by
          unfold selfT
          rw [beq_no h5, Bool.false_or, decide_eq_true ⟨h22, h0, hlt⟩, Bool.true_and, List.getD_eq_getElem?_getD, hg]
          rfl
        rw [hs]
        generalize tl[e.n.toNat]'(by omega) = o at hg
        have hi := index_bow (d := 0) (s := 22) h0 hg
        cases tl with
        | nil => simp at hg
        | cons x tl =>
          rw [mkOwn_bol] at h2
          have h22b : (e.op == 22) = true := by simpa using h22
          simp only [av_e e]
          simp only [timed11_b, timed11_h, timed11_rs, Try.f53, h1, h2, beq_no h5, h22b, hi, n01, n12, List.length_cons, F.EVT, Am.splice, Am.enterN, Am.freshMem, Am.cA, Am.cB, Am.cK, Am.cL, Am.cS, Am.cT, Am.cE, Am.aresults, Am.aresult, Am.codeKey, Am.frzTop, Am.spliceP, Nat.reduceAdd, Nat.reduceLeDiff, Nat.reduceBEq, Nat.reduceEqDiff, reduceIte, reduceCtorEq, Nat.reduceSub, Int.reduceBEq, Int.reduceSub, Int.reduceAdd, Int.reduceToNat, Int.reduceLT, Int.reduceLE, Int.reduceEq, Int.reduceNeg, Int.reduceBNe, Int.reduceGT, Int.reduceGE, Nat.reduceMul, Nat.reduceMod, Nat.reduceDiv]
          try rfl
      · have hs : selfT tl e = false := by unfold selfT; rw [beq_no h5, decide_eq_false (fun q => h22 q.1)]; rfl
        rw [hs]
        simp only [av_e e]
        simp only [timed11_b, timed11_h, timed11_rs, Try.f53, h1, beq_no h5, beq_no h22, n01, n12, List.length_cons, F.EVT, Am.splice, Am.enterN, Am.freshMem, Am.cA, Am.cB, Am.cK, Am.cL, Am.cS, Am.cT, Am.cE, Am.aresults, Am.aresult, Am.codeKey, Am.frzTop, Am.spliceP, Nat.reduceAdd, Nat.reduceLeDiff, Nat.reduceBEq, Nat.reduceEqDiff, reduceIte, reduceCtorEq, Nat.reduceSub, Int.reduceBEq, Int.reduceSub, Int.reduceAdd, Int.reduceToNat, Int.reduceLT, Int.reduceLE, Int.reduceEq, Int.reduceNeg, Int.reduceBNe, Int.reduceGT, Int.reduceGE, Nat.reduceMul, Nat.reduceMod, Nat.reduceDiv]
        try rfl
  · rw [Bool.true_or]
    simp only [av_e e]
    simp only [timed11_b, timed11_h, timed11_rs, Try.f53, h1, n01, n12, List.length_cons, F.EVT, Am.splice, Am.enterN, Am.freshMem, Am.cA, Am.cB, Am.cK, Am.cL, Am.cS, Am.cT, Am.cE, Am.aresults, Am.aresult, Am.codeKey, Am.frzTop, Am.spliceP, Nat.reduceAdd, Nat.reduceLeDiff, Nat.reduceBEq, Nat.reduceEqDiff, reduceIte, reduceCtorEq, Nat.reduceSub, Int.reduceBEq, Int.reduceSub, Int.reduceAdd, Int.reduceToNat, Int.reduceLT, Int.reduceLE, Int.reduceEq, Int.reduceNeg, Int.reduceBNe, Int.reduceGT, Int.reduceGE, Nat.reduceMul, Nat.reduceMod, Nat.reduceDiv]
    try rfl
end Go.Proofs.Ytjbmdfdgeioecaa.X
