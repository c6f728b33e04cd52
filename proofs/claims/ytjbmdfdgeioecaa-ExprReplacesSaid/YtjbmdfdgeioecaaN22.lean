/- Evaluation, by the code: any expression that has a type. -/
import Derived.Test.YtjbmdfdgeioecaaN18
namespace Go.Proofs.Ytjbmdfdgeioecaa.X
open Go.Proofs.Ytjbmdfdgeioecaa.Am Go.Proofs.Ytjbmdfdgeioecaa.F
set_option linter.unusedVariables false
set_option linter.unusedSimpArgs false
set_option maxRecDepth 100000
set_option maxHeartbeats 1000000
theorem index_E0 {l : List E} {a : E} (h : l[0]? = some a) : indexC 4 (.pv (.slc (l.map E.pv))) 0 = some (.eptr [.int .i64 a.op, .int .i64 a.n, .str a.s, .slc (a.args.map E.pv)]) := index_E (i := 0) h
theorem index_E1 {l : List E} {a : E} (h : l[1]? = some a) : indexC 4 (.pv (.slc (l.map E.pv))) 1 = some (.eptr [.int .i64 a.op, .int .i64 a.n, .str a.s, .slc (a.args.map E.pv)]) := index_E (i := 1) h
theorem index_E2 {l : List E} {a : E} (h : l[2]? = some a) : indexC 4 (.pv (.slc (l.map E.pv))) 2 = some (.eptr [.int .i64 a.op, .int .i64 a.n, .str a.s, .slc (a.args.map E.pv)]) := index_E (i := 2) h
theorem fe_if {fs : List Fn} {time : Int} {row ps : List V} {e c a b : E} {vc v : V} (hk : e.op = 21) (ha : e.args = [c, a, b]) (hc : RR 42 [frv fs time row ps, c.av] [] = some (vc.av, []))
    (hv : RR 42 [frv fs time row ps, (if vc.n = 1 then a else b).av] [] = some (v.av, [])) : RR 42 [frv fs time row ps, e.av] [] = some (v.av, []) := by
  have h0 := index_E0 (l := e.args) (a := c) (by rw [ha]; rfl)
  have h1 := index_E1 (l := e.args) (a := a) (by rw [ha]; rfl)
  have h2 := index_E2 (l := e.args) (a := b) (by rw [ha]; rfl)
  clear ha
  apply feval_r
  by_cases hn : vc.n = 1
  · rw [if_pos hn] at hv
    simp only [V.av, E.av, frv] at hc hv ⊢
    simp only [feval_b, feval_h, feval_rs, Try.f42, hk, h0, h1, h2, hc, hv, hn, F.EVT, Am.splice, Am.enterN, Am.freshMem, Am.cA, Am.cB, Am.cK, Am.cL, Am.cS, Am.cT, Am.cE, Am.aresults, Am.aresult, Am.codeKey, Am.frzTop, Am.spliceP, Nat.reduceAdd, Nat.reduceLeDiff, Nat.reduceBEq, Nat.reduceEqDiff, reduceIte, reduceCtorEq, Nat.reduceSub, Int.reduceBEq, Int.reduceSub, Int.reduceAdd, Int.reduceToNat, Int.reduceLT, Int.reduceLE, Int.reduceEq, Int.reduceNeg, Int.reduceBNe, Int.reduceGT, Int.reduceGE, Nat.reduceMul, Nat.reduceMod, Nat.reduceDiv]
  · rw [if_neg hn] at hv
    simp only [V.av, E.av, frv] at hc hv ⊢
    simp only [feval_b, feval_h, feval_rs, Try.f42, hk, h0, h1, h2, hc, hv, beq_no hn, F.EVT, Am.splice, Am.enterN, Am.freshMem, Am.cA, Am.cB, Am.cK, Am.cL, Am.cS, Am.cT, Am.cE, Am.aresults, Am.aresult, Am.codeKey, Am.frzTop, Am.spliceP, Nat.reduceAdd, Nat.reduceLeDiff, Nat.reduceBEq, Nat.reduceEqDiff, reduceIte, reduceCtorEq, Nat.reduceSub, Int.reduceBEq, Int.reduceSub, Int.reduceAdd, Int.reduceToNat, Int.reduceLT, Int.reduceLE, Int.reduceEq, Int.reduceNeg, Int.reduceBNe, Int.reduceGT, Int.reduceGE, Nat.reduceMul, Nat.reduceMod, Nat.reduceDiv]
theorem fe_go {fs : List Fn} {time : Int} {row ps : List V} {e : E} {g : E → V} {v : V} (hk : e.op ≠ 21) (hl : ∀ a ∈ e.args, RR 42 [frv fs time row ps, a.av] [] = some ((g a).av, [])) (hn : e.args.length ≤ 1000000)
    (hend : FeGoal fs time row ps e (e.args.map g) v) : RR 42 [frv fs time row ps, e.av] [] = some (v.av, []) := by
  have hloop := fe_loop (v := v) hl hn hend e.args 0 []
  clear hl hend
  apply feval_r
  generalize hv : v.av = w at hloop ⊢
  simp only [E.av, frv]
  simp only [feval_b, feval_h, feval_rs, Try.f42, beq_no hk, F.EVT, Am.splice, Am.enterN, Am.freshMem, Am.cA, Am.cB, Am.cK, Am.cL, Am.cS, Am.cT, Am.cE, Am.aresults, Am.aresult, Am.codeKey, Am.frzTop, Am.spliceP, Nat.reduceAdd, Nat.reduceLeDiff, Nat.reduceBEq, Nat.reduceEqDiff, reduceIte, reduceCtorEq, Nat.reduceSub, Int.reduceBEq, Int.reduceSub, Int.reduceAdd, Int.reduceToNat, Int.reduceLT, Int.reduceLE, Int.reduceEq, Int.reduceNeg, Int.reduceBNe, Int.reduceGT, Int.reduceGE, Nat.reduceMul, Nat.reduceMod, Nat.reduceDiv]
  exact hloop _ rfl (Nat.zero_le _) rfl rfl (by kernel_rfl)
end Go.Proofs.Ytjbmdfdgeioecaa.X
