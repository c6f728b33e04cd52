/- Evaluation, by the code. -/
import Derived.Test.YtjbmdfdgeioecaaN12
namespace Go.Proofs.Ytjbmdfdgeioecaa.X
open Go.Proofs.Ytjbmdfdgeioecaa.Am Go.Proofs.Ytjbmdfdgeioecaa.F
set_option linter.unusedVariables false
set_option linter.unusedSimpArgs false
set_option maxRecDepth 100000
set_option maxHeartbeats 1000000
def V.z : V := ⟨0, 0, ByteArray.empty⟩
def at? (l : List V) (n : Int) : V := (l[n.toNat]?).getD V.z
/-- The value of an operation, given those of its parts and of calls. -/
def evOp (cl : Int → List V → V) (time : Int) (row ps : List V) (op n : Int) (s : ByteArray) (l : List V) : V :=
  let a := at? l 0
  let b := at? l 1
  if op = 0 then nv n else if op = 1 then ⟨1, 0, s⟩ else if op = 2 then tv (n == 1) else if op = 3 then at? row n else if op = 4 then at? ps n else if op = 5 then nv time
  else if op = 6 then tv (a.n == 0) else if op = 7 then nv (IntKind.i64.wrap (0 - a.n)) else if op = 20 then nv a.s.size
  else if op = 8 then nv (w64 (a.n + b.n)) else if op = 9 then nv (w64 (a.n - b.n)) else if op = 10 then nv (w64 (a.n * b.n)) else if op = 11 then nv (if b.n = 0 then 0 else w64 (a.n.tdiv b.n)) else if op = 12 then nv (if b.n = 0 then 0 else a.n.tmod b.n)
  else if op = 13 then tv (a.beq b) else if op = 14 then tv (!a.beq b) else if op = 15 then tv (decide (vcmp a b < 0)) else if op = 16 then tv (decide (vcmp a b ≤ 0))
  else if op = 17 then tv (a.n == 1 && b.n == 1) else if op = 18 then tv (a.n == 1 || b.n == 1) else if op = 19 then ⟨1, 0, cut200 (a.s ++ b.s)⟩
  else if op = 21 then (if a.n = 1 then b else at? l 2) else if op = 22 then cl n l else V.z
mutual
def evE (cl : Int → List V → V) (time : Int) (row ps : List V) : E → V | .mk op n s args => evOp cl time row ps op n s (evEL cl time row ps args)
def evEL (cl : Int → List V → V) (time : Int) (row ps : List V) : List E → List V | [] => [] | a :: l => evE cl time row ps a :: evEL cl time row ps l
end
theorem evE_eq (cl : Int → List V → V) (time : Int) (row ps : List V) (e : E) : evE cl time row ps e = evOp cl time row ps e.op e.n e.s (evEL cl time row ps e.args) := by cases e; simp only [evE, E.args, E.op, E.n, E.s]
def frv (fs : List Fn) (time : Int) (row ps : List V) : AV := .agg [slF fs, I time, slV row, slV ps]
def vs (l : List V) : List PV := l.map V.pv
abbrev feM (fs : List Fn) (time : Int) (row ps : List V) (e : E) (l : List V) : Mem := ⟨[(2, [slF fs, I time, slV row, slV ps]), (3, emem e), (4, [I 0, I 0, .pv (.str ByteArray.empty)])], [(44, rowT (vs l) 3)]⟩
abbrev feSt (fs : List Fn) (time : Int) (row ps : List V) (e : E) (l : List V) (i : Int) : St := feval_t7 (.ptr none 2 0) (.ptr none 3 0) (.ptr none 4 0) (mkOwn 44 (vs l)) (.pv (.slc (e.args.map E.pv))) (I e.args.length) (I i) [feM fs time row ps e l]
def FeGoal (fs : List Fn) (time : Int) (row ps : List V) (e : E) (l : List V) (v : V) : Prop :=
  leaveR PP feval_rs 0 (thenC (blockC 0 (feval_X7 (feSt fs time row ps e l e.args.length))) (acodeX PP RR [] feval_L feval_k7)) = some (v.av, [])
theorem fe_loop {fs : List Fn} {time : Int} {row ps : List V} {e : E} {v : V} {g : E → V} (hl : ∀ a ∈ e.args, RR 42 [frv fs time row ps, a.av] [] = some ((g a).av, [])) (hn : e.args.length ≤ 1000000)
    (hend : FeGoal fs time row ps e (e.args.map g) v) : ∀ (xs : List E) (i : Nat) (l : List V) (st : St), e.args.drop i = xs → i ≤ e.args.length → l.length = i → l ++ xs.map g = e.args.map g →
    St.forget (feval_h.at 7) st = feSt fs time row ps e l i → leaveR PP feval_rs 0 (thenC (blockC 0 (feval_L 7 st)) (acodeX PP RR [] feval_L feval_k7)) = some (v.av, [])
  | [], i, l, st, h, hle, hts, hk, hst => by
    have he : i = e.args.length := by have := drop_nil' h; omega
    subst he
    rw [feval_q7, hst]
    rw [List.map_nil, List.append_nil] at hk
    rw [hk]
    exact hend
  | x :: xs, i, l, st, h, hle, hts, hk, hst => by
    obtain ⟨hlt, hi, hd⟩ := drop_cons h
    have hlt' : (i : Int) < e.args.length := by omega
    have ht := hl x (List.mem_of_getElem? hi)
    simp only [E.av, V.av, frv] at ht
    have hb : ((vs l).length + 1) * 32 ≤ 140737488355328 := by simp only [vs, List.length_map]; omega
    have hap : vs l ++ [.agg [.int .i64 (g x).kind, .int .i64 (g x).n, .str (g x).s]] = vs (l ++ [g x]) := by simp [vs, V.pv]
    rw [feval_q7, hst]
    rw [feval_e7]; simp only [feval_l7, feval_b, feval_rs, Try.f42, index_E hi, hlt', ht, hb, hap, wrapS hlt (show e.args.length ≤ LIM by simp only [LIM]; omega), F.EVT, Am.splice, Am.enterN, Am.freshMem, Am.cA, Am.cB, Am.cK, Am.cL, Am.cS, Am.cT, Am.cE, Am.aresults, Am.aresult, Am.codeKey, Am.frzTop, Am.spliceP, Nat.reduceAdd, Nat.reduceLeDiff, Nat.reduceBEq, Nat.reduceEqDiff, reduceIte, reduceCtorEq, Nat.reduceSub, Int.reduceBEq, Int.reduceSub, Int.reduceAdd, Int.reduceToNat, Int.reduceLT, Int.reduceLE, Int.reduceEq, Int.reduceNeg, Int.reduceBNe, Int.reduceGT, Int.reduceGE, Nat.reduceMul, Nat.reduceMod, Nat.reduceDiv]
    exact fe_loop hl hn hend xs (i + 1) (l ++ [g x]) _ hd hlt (by simp [hts]) (by rw [← hk]; simp) (by delta feSt feM; generalize vs (l ++ [g x]) = E; cases E <;> kernel_rfl)
theorem fv_0 {fs : List Fn} {time : Int} {row ps : List V} {e : E} {l : List V} (hk : e.op = 0) : FeGoal fs time row ps e l (nv e.n) := by
  unfold FeGoal
  have h := number_ok e.n
  simp only [V.av, nv] at h ⊢
  rw [feval_e7]; simp only [feval_l7, feval_b, feval_rs, Try.f42, Int.lt_irrefl, F.EVT, Am.splice, Am.enterN, Am.freshMem, Am.cA, Am.cB, Am.cK, Am.cL, Am.cS, Am.cT, Am.cE, Am.aresults, Am.aresult, Am.codeKey, Am.frzTop, Am.spliceP, Nat.reduceAdd, Nat.reduceLeDiff, Nat.reduceBEq, Nat.reduceEqDiff, reduceIte, reduceCtorEq, Nat.reduceSub, Int.reduceBEq, Int.reduceSub, Int.reduceAdd, Int.reduceToNat, Int.reduceLT, Int.reduceLE, Int.reduceEq, Int.reduceNeg, Int.reduceBNe, Int.reduceGT, Int.reduceGE, Nat.reduceMul, Nat.reduceMod, Nat.reduceDiv]
  simp only [feval_k7, feval_b, feval_rs, Try.f42, hk, h, F.EVT, Am.splice, Am.enterN, Am.freshMem, Am.cA, Am.cB, Am.cK, Am.cL, Am.cS, Am.cT, Am.cE, Am.aresults, Am.aresult, Am.codeKey, Am.frzTop, Am.spliceP, Nat.reduceAdd, Nat.reduceLeDiff, Nat.reduceBEq, Nat.reduceEqDiff, reduceIte, reduceCtorEq, Nat.reduceSub, Int.reduceBEq, Int.reduceSub, Int.reduceAdd, Int.reduceToNat, Int.reduceLT, Int.reduceLE, Int.reduceEq, Int.reduceNeg, Int.reduceBNe, Int.reduceGT, Int.reduceGE, Nat.reduceMul, Nat.reduceMod, Nat.reduceDiv]
  try rfl
theorem mkV {s : Nat} {l : List V} {a : V} {i : Int} (h0 : 0 ≤ i) (h : l[i.toNat]? = some a) : indexC 3 (mkOwn s (vs l)) i = some (.eptr [.int .i64 a.kind, .int .i64 a.n, .str a.s]) := by
  rw [index_mk]; simp [indexC, AV.slc?, h, h0, vs, V.pv, PV.cells]
theorem mkV0 {s : Nat} {a : V} {l : List V} : indexC 3 (mkOwn s (vs (a :: l))) 0 = some (.eptr [.int .i64 a.kind, .int .i64 a.n, .str a.s]) := mkV (by omega) rfl
theorem mkV1 {s : Nat} {a b : V} {l : List V} : indexC 3 (mkOwn s (vs (a :: b :: l))) 1 = some (.eptr [.int .i64 b.kind, .int .i64 b.n, .str b.s]) := mkV (by omega) rfl
end Go.Proofs.Ytjbmdfdgeioecaa.X
