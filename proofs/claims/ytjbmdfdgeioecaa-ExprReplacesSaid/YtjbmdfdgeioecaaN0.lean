/- Values and functions as types of their own; small functions of the code. -/
import Derived.Test.YtjbmdfdgeioecaaE0
namespace Go.Proofs.Ytjbmdfdgeioecaa.X
open Go.Proofs.Ytjbmdfdgeioecaa.Am Go.Proofs.Ytjbmdfdgeioecaa.F
set_option linter.unusedVariables false
set_option linter.unusedSimpArgs false
set_option maxRecDepth 100000
abbrev I (n : Int) : AV := .pv (.int .i64 n)
abbrev B (b : Bool) : AV := .pv (.bool b)
structure V where
  kind : Int
  n : Int
  s : ByteArray
def V.pv (v : V) : PV := .agg [.int .i64 v.kind, .int .i64 v.n, .str v.s]
def V.av (v : V) : AV := .agg [.pv (.int .i64 v.kind), .pv (.int .i64 v.n), .pv (.str v.s)]
theorem V.pv_len (v : V) : v.pv.cells.length = 3 := rfl
structure Fn where
  name : ByteArray
  params : List Int
  result : Int
  body : E
def ints (l : List Int) : List PV := l.map (PV.int .i64)
def Fn.pv (f : Fn) : PV := .agg [.str f.name, .slc (ints f.params), .int .i64 f.result, .int .i64 f.body.op, .int .i64 f.body.n, .str f.body.s, .slc (f.body.args.map E.pv)]
theorem Fn.pv_len (f : Fn) : f.pv.cells.length = 7 := rfl
theorem index_V {l : List V} {i : Nat} {a : V} (h : l[i]? = some a) : indexC 3 (.pv (.slc (l.map V.pv))) (i : Int) = some (.eptr [.int .i64 a.kind, .int .i64 a.n, .str a.s]) := by
  simp [indexC, AV.slc?, h, a.pv_len, V.pv, PV.cells]
theorem index_F {l : List Fn} {i : Nat} {a : Fn} (h : l[i]? = some a) : indexC 7 (.pv (.slc (l.map Fn.pv))) (i : Int) = some (.eptr [.str a.name, .slc (ints a.params), .int .i64 a.result, .int .i64 a.body.op, .int .i64 a.body.n, .str a.body.s, .slc (a.body.args.map E.pv)]) := by
  simp [indexC, AV.slc?, h, a.pv_len, Fn.pv, PV.cells]
theorem index_I {l : List Int} {i : Nat} {a : Int} (h : l[i]? = some a) : indexC 1 (.pv (.slc (ints l))) (i : Int) = some (.eptr [.int .i64 a]) := by
  simp [indexC, AV.slc?, h, ints, PV.cells]
def nv (n : Int) : V := ⟨0, n, ByteArray.empty⟩
def tv (b : Bool) : V := ⟨2, if b then 1 else 0, ByteArray.empty⟩
theorem number_ok (n : Int) : RR 66 [I n] [] = some ((nv n).av, []) := by
  apply number_r
  simp only [number_b, number_h, number_rs, Try.f66, F.EVT, Am.splice, Am.enterN, Am.freshMem, Am.cA, Am.cB, Am.cK, Am.cL, Am.cS, Am.cT, Am.cE, Am.aresults, Am.aresult, Am.codeKey, Am.frzTop, Am.spliceP, Nat.reduceAdd, Nat.reduceLeDiff, Nat.reduceBEq, Nat.reduceEqDiff, reduceIte, reduceCtorEq, Nat.reduceSub, Int.reduceBEq, Int.reduceSub, Int.reduceAdd, Int.reduceToNat, Int.reduceLT, Int.reduceLE, Int.reduceEq, Int.reduceNeg, Int.reduceBNe, Int.reduceGT, Int.reduceGE, Nat.reduceMul, Nat.reduceMod, Nat.reduceDiv]
  rfl
theorem truth_ok (b : Bool) : RR 67 [B b] [] = some ((tv b).av, []) := by
  apply truth_r
  cases b
  · simp only [truth_b, truth_h, truth_rs, Try.f67, F.EVT, Am.splice, Am.enterN, Am.freshMem, Am.cA, Am.cB, Am.cK, Am.cL, Am.cS, Am.cT, Am.cE, Am.aresults, Am.aresult, Am.codeKey, Am.frzTop, Am.spliceP, Nat.reduceAdd, Nat.reduceLeDiff, Nat.reduceBEq, Nat.reduceEqDiff, reduceIte, reduceCtorEq, Nat.reduceSub, Int.reduceBEq, Int.reduceSub, Int.reduceAdd, Int.reduceToNat, Int.reduceLT, Int.reduceLE, Int.reduceEq, Int.reduceNeg, Int.reduceBNe, Int.reduceGT, Int.reduceGE, Nat.reduceMul, Nat.reduceMod, Nat.reduceDiv]
    rfl
  · simp only [truth_b, truth_h, truth_rs, Try.f67, F.EVT, Am.splice, Am.enterN, Am.freshMem, Am.cA, Am.cB, Am.cK, Am.cL, Am.cS, Am.cT, Am.cE, Am.aresults, Am.aresult, Am.codeKey, Am.frzTop, Am.spliceP, Nat.reduceAdd, Nat.reduceLeDiff, Nat.reduceBEq, Nat.reduceEqDiff, reduceIte, reduceCtorEq, Nat.reduceSub, Int.reduceBEq, Int.reduceSub, Int.reduceAdd, Int.reduceToNat, Int.reduceLT, Int.reduceLE, Int.reduceEq, Int.reduceNeg, Int.reduceBNe, Int.reduceGT, Int.reduceGE, Nat.reduceMul, Nat.reduceMod, Nat.reduceDiv]
    rfl
theorem plus_ok (a b : Int) : RR 80 [I a, I b] [] = some (I (if 1099511627776 < IntKind.i64.wrap (a + b) then 1099511627776 else IntKind.i64.wrap (a + b)), []) := by
  apply plus_r
  simp only [plus_b, plus_h, plus_rs, Try.f80, F.EVT, Am.splice, Am.enterN, Am.freshMem, Am.cA, Am.cB, Am.cK, Am.cL, Am.cS, Am.cT, Am.cE, Am.aresults, Am.aresult, Am.codeKey, Am.frzTop, Am.spliceP, Nat.reduceAdd, Nat.reduceLeDiff, Nat.reduceBEq, Nat.reduceEqDiff, reduceIte, reduceCtorEq, Nat.reduceSub, Int.reduceBEq, Int.reduceSub, Int.reduceAdd, Int.reduceToNat, Int.reduceLT, Int.reduceLE, Int.reduceEq, Int.reduceNeg, Int.reduceBNe, Int.reduceGT, Int.reduceGE, Nat.reduceMul, Nat.reduceMod, Nat.reduceDiv]
theorem kind_ok (n : Int) : RR 60 [I n] [] = some (B (decide (0 ≤ n) && decide (n < 3)), []) := by
  apply kind_r
  by_cases h : n ≥ 0
  · have h' : 0 ≤ n := h
    simp only [kind_b, kind_h, kind_rs, Try.f60, h, h', F.EVT, Am.splice, Am.enterN, Am.freshMem, Am.cA, Am.cB, Am.cK, Am.cL, Am.cS, Am.cT, Am.cE, Am.aresults, Am.aresult, Am.codeKey, Am.frzTop, Am.spliceP, Nat.reduceAdd, Nat.reduceLeDiff, Nat.reduceBEq, Nat.reduceEqDiff, reduceIte, reduceCtorEq, Nat.reduceSub, Int.reduceBEq, Int.reduceSub, Int.reduceAdd, Int.reduceToNat, Int.reduceLT, Int.reduceLE, Int.reduceEq, Int.reduceNeg, Int.reduceBNe, Int.reduceGT, Int.reduceGE, Nat.reduceMul, Nat.reduceMod, Nat.reduceDiv]
  · have h' : ¬ 0 ≤ n := h
    simp only [kind_b, kind_h, kind_rs, Try.f60, h, h', F.EVT, Am.splice, Am.enterN, Am.freshMem, Am.cA, Am.cB, Am.cK, Am.cL, Am.cS, Am.cT, Am.cE, Am.aresults, Am.aresult, Am.codeKey, Am.frzTop, Am.spliceP, Nat.reduceAdd, Nat.reduceLeDiff, Nat.reduceBEq, Nat.reduceEqDiff, reduceIte, reduceCtorEq, Nat.reduceSub, Int.reduceBEq, Int.reduceSub, Int.reduceAdd, Int.reduceToNat, Int.reduceLT, Int.reduceLE, Int.reduceEq, Int.reduceNeg, Int.reduceBNe, Int.reduceGT, Int.reduceGE, Nat.reduceMul, Nat.reduceMod, Nat.reduceDiv]
    rfl
end Go.Proofs.Ytjbmdfdgeioecaa.X
