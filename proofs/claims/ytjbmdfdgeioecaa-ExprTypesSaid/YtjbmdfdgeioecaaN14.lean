/- Types of expressions, by the code: operations. -/
import Derived.Test.YtjbmdfdgeioecaaN13
namespace Go.Proofs.Ytjbmdfdgeioecaa.X
open Go.Proofs.Ytjbmdfdgeioecaa.Am Go.Proofs.Ytjbmdfdgeioecaa.F
set_option linter.unusedVariables false
set_option linter.unusedSimpArgs false
set_option maxRecDepth 100000
set_option maxHeartbeats 1000000
def allI (l : List Int) (t n : Int) : Bool := ((l.length : Int) == n) && !l.any (· != t)
theorem op1_ok {l : List Int} {t n : Int} {m0 : Mem} (hn : l.length ≤ LIM) (hm : m0.vars.lookup 3 = some [slI l]) : RR 103 [I t, I n, .ptr (some 0) 3 0] [m0] = some (B (allI l t n), [m0]) := by
  have h := contains_ok (l := l) (t := t) (m1 := m0) (m0 := m0) hn
  unfold allI
  apply operation1_r
  cases hl : ((l.length : Int) == n)
  · simp only [operation1_b, operation1_h, operation1_rs, Try.f103, hm, ints_len, hl, F.EVT, Am.splice, Am.enterN, Am.freshMem, Am.cA, Am.cB, Am.cK, Am.cL, Am.cS, Am.cT, Am.cE, Am.aresults, Am.aresult, Am.codeKey, Am.frzTop, Am.spliceP, Nat.reduceAdd, Nat.reduceLeDiff, Nat.reduceBEq, Nat.reduceEqDiff, reduceIte, reduceCtorEq, Nat.reduceSub, Int.reduceBEq, Int.reduceSub, Int.reduceAdd, Int.reduceToNat, Int.reduceLT, Int.reduceLE, Int.reduceEq, Int.reduceNeg, Int.reduceBNe, Int.reduceGT, Int.reduceGE, Nat.reduceMul, Nat.reduceMod, Nat.reduceDiv]
    try rfl
  · simp only [operation1_b, operation1_h, operation1_rs, Try.f103, hm, ints_len, hl, h, F.EVT, Am.splice, Am.enterN, Am.freshMem, Am.cA, Am.cB, Am.cK, Am.cL, Am.cS, Am.cT, Am.cE, Am.aresults, Am.aresult, Am.codeKey, Am.frzTop, Am.spliceP, Nat.reduceAdd, Nat.reduceLeDiff, Nat.reduceBEq, Nat.reduceEqDiff, reduceIte, reduceCtorEq, Nat.reduceSub, Int.reduceBEq, Int.reduceSub, Int.reduceAdd, Int.reduceToNat, Int.reduceLT, Int.reduceLE, Int.reduceEq, Int.reduceNeg, Int.reduceBNe, Int.reduceGT, Int.reduceGE, Nat.reduceMul, Nat.reduceMod, Nat.reduceDiv]
    try rfl
def ifTy (l : List Int) : Option Int := match l with | [a, b, c] => if a = 2 ∧ b = c then some b else none | _ => none
def opTy (op n : Int) (l : List Int) : Option Int :=
  if n ≠ 0 then none else if op = 6 then (if allI l 2 1 then some 2 else none) else if op = 7 then (if allI l 0 1 then some 0 else none) else if op = 20 then (if allI l 1 1 then some 0 else none)
  else if 8 ≤ op ∧ op ≤ 12 then (if allI l 0 2 then some 0 else none) else if 13 ≤ op ∧ op ≤ 16 then (if allI l (l.getD 0 0) 2 then some 2 else none)
  else if op = 17 ∨ op = 18 then (if allI l 2 2 then some 2 else none) else if op = 19 then (if allI l 1 2 then some 1 else none)
  else if op = 21 then ifTy l else none
def OpGoal (e : E) (l : List Int) (o : Option Int) : Prop := Gives (leaveR PP operation_rs ([] : List Mem).length (acodeX PP RR [] operation_L operation_b (enterN 78 operation_h [e.av, slI l] []))) o
theorem opn {e : E} {l : List Int} (hn : e.n ≠ 0) : OpGoal e l none := by
  unfold OpGoal
  refine Gives.no (t := 0) ?_
  simp only [operation_b, operation_h, operation_rs, Try.f94, E.av, bne_no hn, F.EVT, Am.splice, Am.enterN, Am.freshMem, Am.cA, Am.cB, Am.cK, Am.cL, Am.cS, Am.cT, Am.cE, Am.aresults, Am.aresult, Am.codeKey, Am.frzTop, Am.spliceP, Nat.reduceAdd, Nat.reduceLeDiff, Nat.reduceBEq, Nat.reduceEqDiff, reduceIte, reduceCtorEq, Nat.reduceSub, Int.reduceBEq, Int.reduceSub, Int.reduceAdd, Int.reduceToNat, Int.reduceLT, Int.reduceLE, Int.reduceEq, Int.reduceNeg, Int.reduceBNe, Int.reduceGT, Int.reduceGE, Nat.reduceMul, Nat.reduceMod, Nat.reduceDiv]
  try rfl
theorem op_6 {e : E} {l : List Int} (hn : l.length ≤ LIM) (h0 : e.n = 0) (hk : e.op = 6) : OpGoal e l (opTy 6 0 l) := by
  unfold OpGoal
  have h1 := fun t n m0 hm => op1_ok (l := l) (t := t) (n := n) (m0 := m0) hn hm
  have hs : opTy 6 0 l = (if allI l (if (6 : Int) = 6 then 2 else if (6 : Int) = 7 then 0 else 1) 1 then some (if (6 : Int) = 6 then 2 else 0) else none) := rfl
  rw [hs]
  simp only [reduceIte, Int.reduceEq]
  refine Gives.bool ?_
  simp only [operation_b, operation_h, operation_rs, Try.f94, E.av, h0, hk, h1, F.EVT, Am.splice, Am.enterN, Am.freshMem, Am.cA, Am.cB, Am.cK, Am.cL, Am.cS, Am.cT, Am.cE, Am.aresults, Am.aresult, Am.codeKey, Am.frzTop, Am.spliceP, Nat.reduceAdd, Nat.reduceLeDiff, Nat.reduceBEq, Nat.reduceEqDiff, reduceIte, reduceCtorEq, Nat.reduceSub, Int.reduceBEq, Int.reduceSub, Int.reduceAdd, Int.reduceToNat, Int.reduceLT, Int.reduceLE, Int.reduceEq, Int.reduceNeg, Int.reduceBNe, Int.reduceGT, Int.reduceGE, Nat.reduceMul, Nat.reduceMod, Nat.reduceDiv]
  try rfl
theorem op_7 {e : E} {l : List Int} (hn : l.length ≤ LIM) (h0 : e.n = 0) (hk : e.op = 7) : OpGoal e l (opTy 7 0 l) := by
  unfold OpGoal
  have h1 := fun t n m0 hm => op1_ok (l := l) (t := t) (n := n) (m0 := m0) hn hm
  have hs : opTy 7 0 l = (if allI l (if (7 : Int) = 6 then 2 else if (7 : Int) = 7 then 0 else 1) 1 then some (if (7 : Int) = 6 then 2 else 0) else none) := rfl
  rw [hs]
  simp only [reduceIte, Int.reduceEq]
  refine Gives.bool ?_
  simp only [operation_b, operation_h, operation_rs, Try.f94, E.av, h0, hk, h1, F.EVT, Am.splice, Am.enterN, Am.freshMem, Am.cA, Am.cB, Am.cK, Am.cL, Am.cS, Am.cT, Am.cE, Am.aresults, Am.aresult, Am.codeKey, Am.frzTop, Am.spliceP, Nat.reduceAdd, Nat.reduceLeDiff, Nat.reduceBEq, Nat.reduceEqDiff, reduceIte, reduceCtorEq, Nat.reduceSub, Int.reduceBEq, Int.reduceSub, Int.reduceAdd, Int.reduceToNat, Int.reduceLT, Int.reduceLE, Int.reduceEq, Int.reduceNeg, Int.reduceBNe, Int.reduceGT, Int.reduceGE, Nat.reduceMul, Nat.reduceMod, Nat.reduceDiv]
  try rfl
theorem op_20 {e : E} {l : List Int} (hn : l.length ≤ LIM) (h0 : e.n = 0) (hk : e.op = 20) : OpGoal e l (opTy 20 0 l) := by
  unfold OpGoal
  have h1 := fun t n m0 hm => op1_ok (l := l) (t := t) (n := n) (m0 := m0) hn hm
  have hs : opTy 20 0 l = (if allI l (if (20 : Int) = 6 then 2 else if (20 : Int) = 7 then 0 else 1) 1 then some (if (20 : Int) = 6 then 2 else 0) else none) := rfl
  rw [hs]
  simp only [reduceIte, Int.reduceEq]
  refine Gives.bool ?_
  simp only [operation_b, operation_h, operation_rs, Try.f94, E.av, h0, hk, h1, F.EVT, Am.splice, Am.enterN, Am.freshMem, Am.cA, Am.cB, Am.cK, Am.cL, Am.cS, Am.cT, Am.cE, Am.aresults, Am.aresult, Am.codeKey, Am.frzTop, Am.spliceP, Nat.reduceAdd, Nat.reduceLeDiff, Nat.reduceBEq, Nat.reduceEqDiff, reduceIte, reduceCtorEq, Nat.reduceSub, Int.reduceBEq, Int.reduceSub, Int.reduceAdd, Int.reduceToNat, Int.reduceLT, Int.reduceLE, Int.reduceEq, Int.reduceNeg, Int.reduceBNe, Int.reduceGT, Int.reduceGE, Nat.reduceMul, Nat.reduceMod, Nat.reduceDiv]
  try rfl
theorem Gives.dec {x : Option (AV × List Mem)} {t : Int} {c : Prop} [Decidable c] {b : Bool} (h : x = some (.tup [I t, B b], [])) (hb : b = decide c) : Gives x (if c then some t else none) := by
  by_cases hc : c
  · rw [if_pos hc]; exact .yes (by rw [h, hb, decide_eq_true hc])
  · rw [if_neg hc]; exact .no (by rw [h, hb, decide_eq_false hc])
theorem op_8 {e : E} {l : List Int} (hn : l.length ≤ LIM) (h0 : e.n = 0) (hk : e.op = 8) : OpGoal e l (opTy 8 0 l) := by
  unfold OpGoal
  have h1 := fun t n m0 hm => op1_ok (l := l) (t := t) (n := n) (m0 := m0) hn hm
  have hs : opTy 8 0 l = (if allI l 0 2 then some 0 else none) := rfl
  rw [hs]
  refine Gives.bool ?_
  simp only [operation_b, operation_h, operation_rs, Try.f94, E.av, h0, hk, h1, F.EVT, Am.splice, Am.enterN, Am.freshMem, Am.cA, Am.cB, Am.cK, Am.cL, Am.cS, Am.cT, Am.cE, Am.aresults, Am.aresult, Am.codeKey, Am.frzTop, Am.spliceP, Nat.reduceAdd, Nat.reduceLeDiff, Nat.reduceBEq, Nat.reduceEqDiff, reduceIte, reduceCtorEq, Nat.reduceSub, Int.reduceBEq, Int.reduceSub, Int.reduceAdd, Int.reduceToNat, Int.reduceLT, Int.reduceLE, Int.reduceEq, Int.reduceNeg, Int.reduceBNe, Int.reduceGT, Int.reduceGE, Nat.reduceMul, Nat.reduceMod, Nat.reduceDiv]
  try rfl
theorem op_9 {e : E} {l : List Int} (hn : l.length ≤ LIM) (h0 : e.n = 0) (hk : e.op = 9) : OpGoal e l (opTy 9 0 l) := by
  unfold OpGoal
  have h1 := fun t n m0 hm => op1_ok (l := l) (t := t) (n := n) (m0 := m0) hn hm
  have hs : opTy 9 0 l = (if allI l 0 2 then some 0 else none) := rfl
  rw [hs]
  refine Gives.bool ?_
  simp only [operation_b, operation_h, operation_rs, Try.f94, E.av, h0, hk, h1, F.EVT, Am.splice, Am.enterN, Am.freshMem, Am.cA, Am.cB, Am.cK, Am.cL, Am.cS, Am.cT, Am.cE, Am.aresults, Am.aresult, Am.codeKey, Am.frzTop, Am.spliceP, Nat.reduceAdd, Nat.reduceLeDiff, Nat.reduceBEq, Nat.reduceEqDiff, reduceIte, reduceCtorEq, Nat.reduceSub, Int.reduceBEq, Int.reduceSub, Int.reduceAdd, Int.reduceToNat, Int.reduceLT, Int.reduceLE, Int.reduceEq, Int.reduceNeg, Int.reduceBNe, Int.reduceGT, Int.reduceGE, Nat.reduceMul, Nat.reduceMod, Nat.reduceDiv]
  try rfl
theorem op_10 {e : E} {l : List Int} (hn : l.length ≤ LIM) (h0 : e.n = 0) (hk : e.op = 10) : OpGoal e l (opTy 10 0 l) := by
  unfold OpGoal
  have h1 := fun t n m0 hm => op1_ok (l := l) (t := t) (n := n) (m0 := m0) hn hm
  have hs : opTy 10 0 l = (if allI l 0 2 then some 0 else none) := rfl
  rw [hs]
  refine Gives.bool ?_
  simp only [operation_b, operation_h, operation_rs, Try.f94, E.av, h0, hk, h1, F.EVT, Am.splice, Am.enterN, Am.freshMem, Am.cA, Am.cB, Am.cK, Am.cL, Am.cS, Am.cT, Am.cE, Am.aresults, Am.aresult, Am.codeKey, Am.frzTop, Am.spliceP, Nat.reduceAdd, Nat.reduceLeDiff, Nat.reduceBEq, Nat.reduceEqDiff, reduceIte, reduceCtorEq, Nat.reduceSub, Int.reduceBEq, Int.reduceSub, Int.reduceAdd, Int.reduceToNat, Int.reduceLT, Int.reduceLE, Int.reduceEq, Int.reduceNeg, Int.reduceBNe, Int.reduceGT, Int.reduceGE, Nat.reduceMul, Nat.reduceMod, Nat.reduceDiv]
  try rfl
theorem op_11 {e : E} {l : List Int} (hn : l.length ≤ LIM) (h0 : e.n = 0) (hk : e.op = 11) : OpGoal e l (opTy 11 0 l) := by
  unfold OpGoal
  have h1 := fun t n m0 hm => op1_ok (l := l) (t := t) (n := n) (m0 := m0) hn hm
  have hs : opTy 11 0 l = (if allI l 0 2 then some 0 else none) := rfl
  rw [hs]
  refine Gives.bool ?_
  simp only [operation_b, operation_h, operation_rs, Try.f94, E.av, h0, hk, h1, F.EVT, Am.splice, Am.enterN, Am.freshMem, Am.cA, Am.cB, Am.cK, Am.cL, Am.cS, Am.cT, Am.cE, Am.aresults, Am.aresult, Am.codeKey, Am.frzTop, Am.spliceP, Nat.reduceAdd, Nat.reduceLeDiff, Nat.reduceBEq, Nat.reduceEqDiff, reduceIte, reduceCtorEq, Nat.reduceSub, Int.reduceBEq, Int.reduceSub, Int.reduceAdd, Int.reduceToNat, Int.reduceLT, Int.reduceLE, Int.reduceEq, Int.reduceNeg, Int.reduceBNe, Int.reduceGT, Int.reduceGE, Nat.reduceMul, Nat.reduceMod, Nat.reduceDiv]
  try rfl
theorem op_12 {e : E} {l : List Int} (hn : l.length ≤ LIM) (h0 : e.n = 0) (hk : e.op = 12) : OpGoal e l (opTy 12 0 l) := by
  unfold OpGoal
  have h1 := fun t n m0 hm => op1_ok (l := l) (t := t) (n := n) (m0 := m0) hn hm
  have hs : opTy 12 0 l = (if allI l 0 2 then some 0 else none) := rfl
  rw [hs]
  refine Gives.bool ?_
  simp only [operation_b, operation_h, operation_rs, Try.f94, E.av, h0, hk, h1, F.EVT, Am.splice, Am.enterN, Am.freshMem, Am.cA, Am.cB, Am.cK, Am.cL, Am.cS, Am.cT, Am.cE, Am.aresults, Am.aresult, Am.codeKey, Am.frzTop, Am.spliceP, Nat.reduceAdd, Nat.reduceLeDiff, Nat.reduceBEq, Nat.reduceEqDiff, reduceIte, reduceCtorEq, Nat.reduceSub, Int.reduceBEq, Int.reduceSub, Int.reduceAdd, Int.reduceToNat, Int.reduceLT, Int.reduceLE, Int.reduceEq, Int.reduceNeg, Int.reduceBNe, Int.reduceGT, Int.reduceGE, Nat.reduceMul, Nat.reduceMod, Nat.reduceDiv]
  try rfl
theorem op_17 {e : E} {l : List Int} (hn : l.length ≤ LIM) (h0 : e.n = 0) (hk : e.op = 17) : OpGoal e l (opTy 17 0 l) := by
  unfold OpGoal
  have h1 := fun t n m0 hm => op1_ok (l := l) (t := t) (n := n) (m0 := m0) hn hm
  have hs : opTy 17 0 l = (if allI l 2 2 then some 2 else none) := rfl
  rw [hs]
  refine Gives.bool ?_
  simp only [operation_b, operation_h, operation_rs, Try.f94, E.av, h0, hk, h1, F.EVT, Am.splice, Am.enterN, Am.freshMem, Am.cA, Am.cB, Am.cK, Am.cL, Am.cS, Am.cT, Am.cE, Am.aresults, Am.aresult, Am.codeKey, Am.frzTop, Am.spliceP, Nat.reduceAdd, Nat.reduceLeDiff, Nat.reduceBEq, Nat.reduceEqDiff, reduceIte, reduceCtorEq, Nat.reduceSub, Int.reduceBEq, Int.reduceSub, Int.reduceAdd, Int.reduceToNat, Int.reduceLT, Int.reduceLE, Int.reduceEq, Int.reduceNeg, Int.reduceBNe, Int.reduceGT, Int.reduceGE, Nat.reduceMul, Nat.reduceMod, Nat.reduceDiv]
  try rfl
theorem op_18 {e : E} {l : List Int} (hn : l.length ≤ LIM) (h0 : e.n = 0) (hk : e.op = 18) : OpGoal e l (opTy 18 0 l) := by
  unfold OpGoal
  have h1 := fun t n m0 hm => op1_ok (l := l) (t := t) (n := n) (m0 := m0) hn hm
  have hs : opTy 18 0 l = (if allI l 2 2 then some 2 else none) := rfl
  rw [hs]
  refine Gives.bool ?_
  simp only [operation_b, operation_h, operation_rs, Try.f94, E.av, h0, hk, h1, F.EVT, Am.splice, Am.enterN, Am.freshMem, Am.cA, Am.cB, Am.cK, Am.cL, Am.cS, Am.cT, Am.cE, Am.aresults, Am.aresult, Am.codeKey, Am.frzTop, Am.spliceP, Nat.reduceAdd, Nat.reduceLeDiff, Nat.reduceBEq, Nat.reduceEqDiff, reduceIte, reduceCtorEq, Nat.reduceSub, Int.reduceBEq, Int.reduceSub, Int.reduceAdd, Int.reduceToNat, Int.reduceLT, Int.reduceLE, Int.reduceEq, Int.reduceNeg, Int.reduceBNe, Int.reduceGT, Int.reduceGE, Nat.reduceMul, Nat.reduceMod, Nat.reduceDiv]
  try rfl
theorem op_19 {e : E} {l : List Int} (hn : l.length ≤ LIM) (h0 : e.n = 0) (hk : e.op = 19) : OpGoal e l (opTy 19 0 l) := by
  unfold OpGoal
  have h1 := fun t n m0 hm => op1_ok (l := l) (t := t) (n := n) (m0 := m0) hn hm
  have hs : opTy 19 0 l = (if allI l 1 2 then some 1 else none) := rfl
  rw [hs]
  refine Gives.bool ?_
  simp only [operation_b, operation_h, operation_rs, Try.f94, E.av, h0, hk, h1, F.EVT, Am.splice, Am.enterN, Am.freshMem, Am.cA, Am.cB, Am.cK, Am.cL, Am.cS, Am.cT, Am.cE, Am.aresults, Am.aresult, Am.codeKey, Am.frzTop, Am.spliceP, Nat.reduceAdd, Nat.reduceLeDiff, Nat.reduceBEq, Nat.reduceEqDiff, reduceIte, reduceCtorEq, Nat.reduceSub, Int.reduceBEq, Int.reduceSub, Int.reduceAdd, Int.reduceToNat, Int.reduceLT, Int.reduceLE, Int.reduceEq, Int.reduceNeg, Int.reduceBNe, Int.reduceGT, Int.reduceGE, Nat.reduceMul, Nat.reduceMod, Nat.reduceDiv]
  try rfl
theorem index_0 {l : List Int} {a : Int} : indexC 1 (.pv (.slc (ints (a :: l)))) 0 = some (.eptr [.int .i64 a]) := index_at (by omega) rfl
theorem index_1 {l : List Int} {a b : Int} : indexC 1 (.pv (.slc (ints (a :: b :: l)))) 1 = some (.eptr [.int .i64 b]) := index_at (by omega) rfl
theorem index_2 {l : List Int} {a b c : Int} : indexC 1 (.pv (.slc (ints (a :: b :: c :: l)))) 2 = some (.eptr [.int .i64 c]) := index_at (by omega) rfl
theorem op_13 {e : E} {a : Int} {l : List Int} (hn : (a :: l).length ≤ LIM) (h0 : e.n = 0) (hk : e.op = 13) : OpGoal e (a :: l) (opTy 13 0 (a :: l)) := by
  unfold OpGoal
  have h1 := fun t n m0 hm => op1_ok (l := a :: l) (t := t) (n := n) (m0 := m0) hn hm
  have hs : opTy 13 0 (a :: l) = (if allI (a :: l) a 2 then some 2 else none) := rfl
  rw [hs]
  refine Gives.bool ?_
  simp only [operation_b, operation_h, operation_rs, Try.f94, E.av, h0, hk, h1, index_0, F.EVT, Am.splice, Am.enterN, Am.freshMem, Am.cA, Am.cB, Am.cK, Am.cL, Am.cS, Am.cT, Am.cE, Am.aresults, Am.aresult, Am.codeKey, Am.frzTop, Am.spliceP, Nat.reduceAdd, Nat.reduceLeDiff, Nat.reduceBEq, Nat.reduceEqDiff, reduceIte, reduceCtorEq, Nat.reduceSub, Int.reduceBEq, Int.reduceSub, Int.reduceAdd, Int.reduceToNat, Int.reduceLT, Int.reduceLE, Int.reduceEq, Int.reduceNeg, Int.reduceBNe, Int.reduceGT, Int.reduceGE, Nat.reduceMul, Nat.reduceMod, Nat.reduceDiv]
  try rfl
theorem op_14 {e : E} {a : Int} {l : List Int} (hn : (a :: l).length ≤ LIM) (h0 : e.n = 0) (hk : e.op = 14) : OpGoal e (a :: l) (opTy 14 0 (a :: l)) := by
  unfold OpGoal
  have h1 := fun t n m0 hm => op1_ok (l := a :: l) (t := t) (n := n) (m0 := m0) hn hm
  have hs : opTy 14 0 (a :: l) = (if allI (a :: l) a 2 then some 2 else none) := rfl
  rw [hs]
  refine Gives.bool ?_
  simp only [operation_b, operation_h, operation_rs, Try.f94, E.av, h0, hk, h1, index_0, F.EVT, Am.splice, Am.enterN, Am.freshMem, Am.cA, Am.cB, Am.cK, Am.cL, Am.cS, Am.cT, Am.cE, Am.aresults, Am.aresult, Am.codeKey, Am.frzTop, Am.spliceP, Nat.reduceAdd, Nat.reduceLeDiff, Nat.reduceBEq, Nat.reduceEqDiff, reduceIte, reduceCtorEq, Nat.reduceSub, Int.reduceBEq, Int.reduceSub, Int.reduceAdd, Int.reduceToNat, Int.reduceLT, Int.reduceLE, Int.reduceEq, Int.reduceNeg, Int.reduceBNe, Int.reduceGT, Int.reduceGE, Nat.reduceMul, Nat.reduceMod, Nat.reduceDiv]
  try rfl
theorem op_15 {e : E} {a : Int} {l : List Int} (hn : (a :: l).length ≤ LIM) (h0 : e.n = 0) (hk : e.op = 15) : OpGoal e (a :: l) (opTy 15 0 (a :: l)) := by
  unfold OpGoal
  have h1 := fun t n m0 hm => op1_ok (l := a :: l) (t := t) (n := n) (m0 := m0) hn hm
  have hs : opTy 15 0 (a :: l) = (if allI (a :: l) a 2 then some 2 else none) := rfl
  rw [hs]
  refine Gives.bool ?_
  simp only [operation_b, operation_h, operation_rs, Try.f94, E.av, h0, hk, h1, index_0, F.EVT, Am.splice, Am.enterN, Am.freshMem, Am.cA, Am.cB, Am.cK, Am.cL, Am.cS, Am.cT, Am.cE, Am.aresults, Am.aresult, Am.codeKey, Am.frzTop, Am.spliceP, Nat.reduceAdd, Nat.reduceLeDiff, Nat.reduceBEq, Nat.reduceEqDiff, reduceIte, reduceCtorEq, Nat.reduceSub, Int.reduceBEq, Int.reduceSub, Int.reduceAdd, Int.reduceToNat, Int.reduceLT, Int.reduceLE, Int.reduceEq, Int.reduceNeg, Int.reduceBNe, Int.reduceGT, Int.reduceGE, Nat.reduceMul, Nat.reduceMod, Nat.reduceDiv]
  try rfl
theorem op_16 {e : E} {a : Int} {l : List Int} (hn : (a :: l).length ≤ LIM) (h0 : e.n = 0) (hk : e.op = 16) : OpGoal e (a :: l) (opTy 16 0 (a :: l)) := by
  unfold OpGoal
  have h1 := fun t n m0 hm => op1_ok (l := a :: l) (t := t) (n := n) (m0 := m0) hn hm
  have hs : opTy 16 0 (a :: l) = (if allI (a :: l) a 2 then some 2 else none) := rfl
  rw [hs]
  refine Gives.bool ?_
  simp only [operation_b, operation_h, operation_rs, Try.f94, E.av, h0, hk, h1, index_0, F.EVT, Am.splice, Am.enterN, Am.freshMem, Am.cA, Am.cB, Am.cK, Am.cL, Am.cS, Am.cT, Am.cE, Am.aresults, Am.aresult, Am.codeKey, Am.frzTop, Am.spliceP, Nat.reduceAdd, Nat.reduceLeDiff, Nat.reduceBEq, Nat.reduceEqDiff, reduceIte, reduceCtorEq, Nat.reduceSub, Int.reduceBEq, Int.reduceSub, Int.reduceAdd, Int.reduceToNat, Int.reduceLT, Int.reduceLE, Int.reduceEq, Int.reduceNeg, Int.reduceBNe, Int.reduceGT, Int.reduceGE, Nat.reduceMul, Nat.reduceMod, Nat.reduceDiv]
  try rfl
theorem op_21 {e : E} {l : List Int} (hn : l.length ≤ LIM) (h0 : e.n = 0) (hk : e.op = 21) (hne : l ≠ []) : OpGoal e l (opTy 21 0 l) := by
  unfold OpGoal
  have hs : opTy 21 0 l = ifTy l := rfl
  rw [hs]
  by_cases h3 : l.length = 3
  · obtain ⟨a, b, c, rfl⟩ := len3 (l := l) (by omega)
    have hlen : ∀ a b c : Int, ((ints [a, b, c]).length : Int) = 3 := fun _ _ _ => rfl
    have hw : IntKind.i64.wrap (2 : Int) = 2 := wrap_ok (by omega) (by omega)
    simp only [ifTy]
    by_cases ha : a = 2
    · by_cases hb : b = c
      · rw [if_pos ⟨ha, hb⟩]
        subst hb
        refine Gives.yes ?_
        simp only [operation_b, operation_h, operation_rs, Try.f94, E.av, h0, hk, hlen, hw, index_0, index_1, index_2, ha, beq_self_eq_true, F.EVT, Am.splice, Am.enterN, Am.freshMem, Am.cA, Am.cB, Am.cK, Am.cL, Am.cS, Am.cT, Am.cE, Am.aresults, Am.aresult, Am.codeKey, Am.frzTop, Am.spliceP, Nat.reduceAdd, Nat.reduceLeDiff, Nat.reduceBEq, Nat.reduceEqDiff, reduceIte, reduceCtorEq, Nat.reduceSub, Int.reduceBEq, Int.reduceSub, Int.reduceAdd, Int.reduceToNat, Int.reduceLT, Int.reduceLE, Int.reduceEq, Int.reduceNeg, Int.reduceBNe, Int.reduceGT, Int.reduceGE, Nat.reduceMul, Nat.reduceMod, Nat.reduceDiv]
      · rw [if_neg (fun q => hb q.2)]
        refine Gives.no (t := c) ?_
        simp only [operation_b, operation_h, operation_rs, Try.f94, E.av, h0, hk, hlen, hw, index_0, index_1, index_2, ha, beq_no hb, F.EVT, Am.splice, Am.enterN, Am.freshMem, Am.cA, Am.cB, Am.cK, Am.cL, Am.cS, Am.cT, Am.cE, Am.aresults, Am.aresult, Am.codeKey, Am.frzTop, Am.spliceP, Nat.reduceAdd, Nat.reduceLeDiff, Nat.reduceBEq, Nat.reduceEqDiff, reduceIte, reduceCtorEq, Nat.reduceSub, Int.reduceBEq, Int.reduceSub, Int.reduceAdd, Int.reduceToNat, Int.reduceLT, Int.reduceLE, Int.reduceEq, Int.reduceNeg, Int.reduceBNe, Int.reduceGT, Int.reduceGE, Nat.reduceMul, Nat.reduceMod, Nat.reduceDiv]
    · rw [if_neg (fun q => ha q.1)]
      refine Gives.no (t := c) ?_
      simp only [operation_b, operation_h, operation_rs, Try.f94, E.av, h0, hk, hlen, hw, index_0, index_1, index_2, beq_no ha, F.EVT, Am.splice, Am.enterN, Am.freshMem, Am.cA, Am.cB, Am.cK, Am.cL, Am.cS, Am.cT, Am.cE, Am.aresults, Am.aresult, Am.codeKey, Am.frzTop, Am.spliceP, Nat.reduceAdd, Nat.reduceLeDiff, Nat.reduceBEq, Nat.reduceEqDiff, reduceIte, reduceCtorEq, Nat.reduceSub, Int.reduceBEq, Int.reduceSub, Int.reduceAdd, Int.reduceToNat, Int.reduceLT, Int.reduceLE, Int.reduceEq, Int.reduceNeg, Int.reduceBNe, Int.reduceGT, Int.reduceGE, Nat.reduceMul, Nat.reduceMod, Nat.reduceDiv]
      try rfl
  · have hm : ifTy l = none := by
      clear hs hn hne
      match l, h3 with
      | [], _ => rfl
      | [_], _ => rfl
      | [_, _], _ => rfl
      | [_, _, _], h => exact absurd rfl h
      | _ :: _ :: _ :: _ :: _, _ => rfl
    rw [hm]
    have hp : 0 < l.length := List.length_pos_iff.2 hne
    have hw : IntKind.i64.wrap ((l.length : Int) - 1) = ((l.length - 1 : Nat) : Int) := by simp only [LIM] at hn; rw [wrap_ok (by omega) (by omega)]; omega
    have hi : l[l.length - 1]? = some (l[l.length - 1]'(by omega)) := List.getElem?_eq_getElem (by omega)
    have hb : ((l.length : Int) == 3) = false := beq_no (by omega)
    refine Gives.no (t := l[l.length - 1]'(by omega)) ?_
    simp only [operation_b, operation_h, operation_rs, Try.f94, E.av, h0, hk, ints_len, hw, index_I hi, hb, F.EVT, Am.splice, Am.enterN, Am.freshMem, Am.cA, Am.cB, Am.cK, Am.cL, Am.cS, Am.cT, Am.cE, Am.aresults, Am.aresult, Am.codeKey, Am.frzTop, Am.spliceP, Nat.reduceAdd, Nat.reduceLeDiff, Nat.reduceBEq, Nat.reduceEqDiff, reduceIte, reduceCtorEq, Nat.reduceSub, Int.reduceBEq, Int.reduceSub, Int.reduceAdd, Int.reduceToNat, Int.reduceLT, Int.reduceLE, Int.reduceEq, Int.reduceNeg, Int.reduceBNe, Int.reduceGT, Int.reduceGE, Nat.reduceMul, Nat.reduceMod, Nat.reduceDiv]
    try rfl
theorem op_far {e : E} {l : List Int} (h0 : e.n = 0) (hk : (0 ≤ e.op ∧ e.op ≤ 5) ∨ e.op < 0 ∨ 21 < e.op) : OpGoal e l none := by
  unfold OpGoal
  refine Gives.no (t := 0) ?_
  have h6 : (e.op == 6) = false := beq_no (by omega)
  have h7 : (e.op == 7) = false := beq_no (by omega)
  have h8 : (e.op == 8) = false := beq_no (by omega)
  have h9 : (e.op == 9) = false := beq_no (by omega)
  have h10 : (e.op == 10) = false := beq_no (by omega)
  have h11 : (e.op == 11) = false := beq_no (by omega)
  have h12 : (e.op == 12) = false := beq_no (by omega)
  have h13 : (e.op == 13) = false := beq_no (by omega)
  have h14 : (e.op == 14) = false := beq_no (by omega)
  have h15 : (e.op == 15) = false := beq_no (by omega)
  have h16 : (e.op == 16) = false := beq_no (by omega)
  have h17 : (e.op == 17) = false := beq_no (by omega)
  have h18 : (e.op == 18) = false := beq_no (by omega)
  have h19 : (e.op == 19) = false := beq_no (by omega)
  have h20 : (e.op == 20) = false := beq_no (by omega)
  have h21 : (e.op == 21) = false := beq_no (by omega)
  simp only [operation_b, operation_h, operation_rs, Try.f94, E.av, h0, h6, h7, h8, h9, h10, h11, h12, h13, h14, h15, h16, h17, h18, h19, h20, h21, F.EVT, Am.splice, Am.enterN, Am.freshMem, Am.cA, Am.cB, Am.cK, Am.cL, Am.cS, Am.cT, Am.cE, Am.aresults, Am.aresult, Am.codeKey, Am.frzTop, Am.spliceP, Nat.reduceAdd, Nat.reduceLeDiff, Nat.reduceBEq, Nat.reduceEqDiff, reduceIte, reduceCtorEq, Nat.reduceSub, Int.reduceBEq, Int.reduceSub, Int.reduceAdd, Int.reduceToNat, Int.reduceLT, Int.reduceLE, Int.reduceEq, Int.reduceNeg, Int.reduceBNe, Int.reduceGT, Int.reduceGE, Nat.reduceMul, Nat.reduceMod, Nat.reduceDiv]
  try rfl
end Go.Proofs.Ytjbmdfdgeioecaa.X
