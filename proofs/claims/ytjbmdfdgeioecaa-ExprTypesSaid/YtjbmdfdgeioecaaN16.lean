/- Types of expressions, by the code: any expression. -/
import Derived.Test.YtjbmdfdgeioecaaN15
namespace Go.Proofs.Ytjbmdfdgeioecaa.X
open Go.Proofs.Ytjbmdfdgeioecaa.Am Go.Proofs.Ytjbmdfdgeioecaa.F
set_option linter.unusedVariables false
set_option linter.unusedSimpArgs false
set_option maxRecDepth 100000
set_option maxHeartbeats 1000000
abbrev scv (fs : List Fn) (cols params : List Int) : AV := .agg [slF fs, slI cols, slI params]
abbrev xofM (fs : List Fn) (cols params : List Int) (e : E) (ts : List Int) : Mem := ⟨[(2, [slF fs, slI cols, slI params]), (3, emem e)], [(29, rowT (ints ts) 1)]⟩
abbrev xofSt (fs : List Fn) (cols params : List Int) (e : E) (ts : List Int) (i : Int) : St := xof_t3 (.ptr none 2 0) (.ptr none 3 0) (mkOwn 29 (ints ts)) (.pv (.slc (e.args.map E.pv))) (I e.args.length) (I i) [xofM fs cols params e ts]
def XofGoal (fs : List Fn) (cols params : List Int) (e : E) (ts : List Int) (o : Option Int) : Prop :=
  Gives (leaveR PP xof_rs 0 (thenC (blockC 0 (xof_X3 (xofSt fs cols params e ts e.args.length))) (acodeX PP RR [] xof_L xof_k3))) o
theorem xof_loop {fs : List Fn} {cols params : List Int} {e : E} (hl : ∀ a ∈ e.args, Gives (RR 65 [scv fs cols params, a.av] []) (ty fs cols params a)) (hn : e.args.length ≤ 1000000)
    (hend : ∀ ts : List Int, ts.length = e.args.length → XofGoal fs cols params e ts (tyOp fs cols params e.op e.n e.s ts)) : ∀ (xs : List E) (i : Nat) (ts : List Int) (st : St), e.args.drop i = xs → i ≤ e.args.length → ts.length = i →
    St.forget (xof_h.at 3) st = xofSt fs cols params e ts i → Gives (leaveR PP xof_rs 0 (thenC (blockC 0 (xof_L 3 st)) (acodeX PP RR [] xof_L xof_k3))) (match tyL fs cols params xs with | some us => tyOp fs cols params e.op e.n e.s (ts ++ us) | none => none)
  | [], i, ts, st, h, hle, hts, hst => by
    have he : i = e.args.length := by have := drop_nil' h; omega
    subst he
    rw [xof_q3, hst]
    simp only [tyL, List.append_nil]
    exact hend ts hts
  | x :: xs, i, ts, st, h, hle, hts, hst => by
    obtain ⟨hlt, hi, hd⟩ := drop_cons h
    have hlt' : (i : Int) < e.args.length := by omega
    rw [xof_q3, hst]
    obtain ⟨t, ht, hu⟩ := hl x (List.mem_of_getElem? hi)
    simp only [E.av] at ht
    cases hx : ty fs cols params x with
    | none =>
      rw [hx] at ht
      simp only [Option.isSome_none] at ht
      simp only [tyL, hx]
      refine Gives.no (t := 0) ?_
      rw [xof_e3]; simp only [xof_l3, xof_b, xof_rs, Try.f65, index_E hi, hlt', ht, F.EVT, Am.splice, Am.enterN, Am.freshMem, Am.cA, Am.cB, Am.cK, Am.cL, Am.cS, Am.cT, Am.cE, Am.aresults, Am.aresult, Am.codeKey, Am.frzTop, Am.spliceP, Nat.reduceAdd, Nat.reduceLeDiff, Nat.reduceBEq, Nat.reduceEqDiff, reduceIte, reduceCtorEq, Nat.reduceSub, Int.reduceBEq, Int.reduceSub, Int.reduceAdd, Int.reduceToNat, Int.reduceLT, Int.reduceLE, Int.reduceEq, Int.reduceNeg, Int.reduceBNe, Int.reduceGT, Int.reduceGE, Nat.reduceMul, Nat.reduceMod, Nat.reduceDiv]
      try rfl
    | some u =>
      rw [hx] at ht
      simp only [Option.isSome_some] at ht
      have hut := hu u hx
      subst hut
      have hb : ((ints ts).length + 1) * 8 ≤ 140737488355328 := by rw [ints_len]; omega
      have hap : ints ts ++ [.int .i64 t] = ints (ts ++ [t]) := by simp [ints]
      have hg : (match tyL fs cols params (x :: xs) with | some us => tyOp fs cols params e.op e.n e.s (ts ++ us) | none => none) = (match tyL fs cols params xs with | some us => tyOp fs cols params e.op e.n e.s ((ts ++ [t]) ++ us) | none => none) := by
        simp only [tyL, hx]
        cases tyL fs cols params xs <;> simp
      rw [xof_e3]; simp only [xof_l3, xof_b, xof_rs, Try.f65, index_E hi, hlt', ht, hb, hap, wrapS hlt (show e.args.length ≤ LIM by simp only [LIM]; omega), F.EVT, Am.splice, Am.enterN, Am.freshMem, Am.cA, Am.cB, Am.cK, Am.cL, Am.cS, Am.cT, Am.cE, Am.aresults, Am.aresult, Am.codeKey, Am.frzTop, Am.spliceP, Nat.reduceAdd, Nat.reduceLeDiff, Nat.reduceBEq, Nat.reduceEqDiff, reduceIte, reduceCtorEq, Nat.reduceSub, Int.reduceBEq, Int.reduceSub, Int.reduceAdd, Int.reduceToNat, Int.reduceLT, Int.reduceLE, Int.reduceEq, Int.reduceNeg, Int.reduceBNe, Int.reduceGT, Int.reduceGE, Nat.reduceMul, Nat.reduceMod, Nat.reduceDiv]
      rw [hg]
      exact xof_loop hl hn hend xs (i + 1) (ts ++ [t]) _ hd hlt (by simp [hts]) (by delta xofSt xofM; generalize ints (ts ++ [t]) = E; cases E <;> kernel_rfl)
theorem xof_leaf {fs : List Fn} {cols params : List Int} {e : E} (h0 : e.args.length = 0) (hs : (e.s.toList == (ByteArray.mk #[]).toList) = true ∨ e.op = 1) (h22 : e.op ≠ 22) : XofGoal fs cols params e [] (leafTy cols params e.op e.n e.s) := by
  unfold XofGoal
  obtain ⟨t, ht, hu⟩ := leaf_ok fs cols params e
  simp only [E.av] at ht
  have hz : (((ints []).length : Int) == 0) = true := rfl
  refine Gives.same (t := t) (b := (leafTy cols params e.op e.n e.s).isSome) ?_ rfl hu
  generalize (leafTy cols params e.op e.n e.s).isSome = bb at ht
  rcases hs with hs | h1
  · rw [xof_e3]; simp only [xof_l3, xof_b, xof_rs, Try.f65, Int.lt_irrefl, F.EVT, Am.splice, Am.enterN, Am.freshMem, Am.cA, Am.cB, Am.cK, Am.cL, Am.cS, Am.cT, Am.cE, Am.aresults, Am.aresult, Am.codeKey, Am.frzTop, Am.spliceP, Nat.reduceAdd, Nat.reduceLeDiff, Nat.reduceBEq, Nat.reduceEqDiff, reduceIte, reduceCtorEq, Nat.reduceSub, Int.reduceBEq, Int.reduceSub, Int.reduceAdd, Int.reduceToNat, Int.reduceLT, Int.reduceLE, Int.reduceEq, Int.reduceNeg, Int.reduceBNe, Int.reduceGT, Int.reduceGE, Nat.reduceMul, Nat.reduceMod, Nat.reduceDiv]
    simp only [xof_k3, xof_b, xof_rs, Try.f65, hs, hz, beq_no h22, bne_no h22, ht, F.EVT, Am.splice, Am.enterN, Am.freshMem, Am.cA, Am.cB, Am.cK, Am.cL, Am.cS, Am.cT, Am.cE, Am.aresults, Am.aresult, Am.codeKey, Am.frzTop, Am.spliceP, Nat.reduceAdd, Nat.reduceLeDiff, Nat.reduceBEq, Nat.reduceEqDiff, reduceIte, reduceCtorEq, Nat.reduceSub, Int.reduceBEq, Int.reduceSub, Int.reduceAdd, Int.reduceToNat, Int.reduceLT, Int.reduceLE, Int.reduceEq, Int.reduceNeg, Int.reduceBNe, Int.reduceGT, Int.reduceGE, Nat.reduceMul, Nat.reduceMod, Nat.reduceDiv]
    try rfl
  · rw [h1] at ht
    cases hs : (e.s.toList == (ByteArray.mk #[]).toList)
    · rw [xof_e3]; simp only [xof_l3, xof_b, xof_rs, Try.f65, Int.lt_irrefl, F.EVT, Am.splice, Am.enterN, Am.freshMem, Am.cA, Am.cB, Am.cK, Am.cL, Am.cS, Am.cT, Am.cE, Am.aresults, Am.aresult, Am.codeKey, Am.frzTop, Am.spliceP, Nat.reduceAdd, Nat.reduceLeDiff, Nat.reduceBEq, Nat.reduceEqDiff, reduceIte, reduceCtorEq, Nat.reduceSub, Int.reduceBEq, Int.reduceSub, Int.reduceAdd, Int.reduceToNat, Int.reduceLT, Int.reduceLE, Int.reduceEq, Int.reduceNeg, Int.reduceBNe, Int.reduceGT, Int.reduceGE, Nat.reduceMul, Nat.reduceMod, Nat.reduceDiv]
      simp only [xof_k3, xof_b, xof_rs, Try.f65, hs, hz, h1, ht, F.EVT, Am.splice, Am.enterN, Am.freshMem, Am.cA, Am.cB, Am.cK, Am.cL, Am.cS, Am.cT, Am.cE, Am.aresults, Am.aresult, Am.codeKey, Am.frzTop, Am.spliceP, Nat.reduceAdd, Nat.reduceLeDiff, Nat.reduceBEq, Nat.reduceEqDiff, reduceIte, reduceCtorEq, Nat.reduceSub, Int.reduceBEq, Int.reduceSub, Int.reduceAdd, Int.reduceToNat, Int.reduceLT, Int.reduceLE, Int.reduceEq, Int.reduceNeg, Int.reduceBNe, Int.reduceGT, Int.reduceGE, Nat.reduceMul, Nat.reduceMod, Nat.reduceDiv]
      try rfl
    · rw [xof_e3]; simp only [xof_l3, xof_b, xof_rs, Try.f65, Int.lt_irrefl, F.EVT, Am.splice, Am.enterN, Am.freshMem, Am.cA, Am.cB, Am.cK, Am.cL, Am.cS, Am.cT, Am.cE, Am.aresults, Am.aresult, Am.codeKey, Am.frzTop, Am.spliceP, Nat.reduceAdd, Nat.reduceLeDiff, Nat.reduceBEq, Nat.reduceEqDiff, reduceIte, reduceCtorEq, Nat.reduceSub, Int.reduceBEq, Int.reduceSub, Int.reduceAdd, Int.reduceToNat, Int.reduceLT, Int.reduceLE, Int.reduceEq, Int.reduceNeg, Int.reduceBNe, Int.reduceGT, Int.reduceGE, Nat.reduceMul, Nat.reduceMod, Nat.reduceDiv]
      simp only [xof_k3, xof_b, xof_rs, Try.f65, hs, hz, h1, ht, F.EVT, Am.splice, Am.enterN, Am.freshMem, Am.cA, Am.cB, Am.cK, Am.cL, Am.cS, Am.cT, Am.cE, Am.aresults, Am.aresult, Am.codeKey, Am.frzTop, Am.spliceP, Nat.reduceAdd, Nat.reduceLeDiff, Nat.reduceBEq, Nat.reduceEqDiff, reduceIte, reduceCtorEq, Nat.reduceSub, Int.reduceBEq, Int.reduceSub, Int.reduceAdd, Int.reduceToNat, Int.reduceLT, Int.reduceLE, Int.reduceEq, Int.reduceNeg, Int.reduceBNe, Int.reduceGT, Int.reduceGE, Nat.reduceMul, Nat.reduceMod, Nat.reduceDiv]
      try rfl
theorem index_fn' {l : List Fn} {n : Int} {a : Fn} (h0 : ¬ n < 0) (h : l[n.toNat]? = some a) : indexC 7 (.pv (.slc (l.map Fn.pv))) n = some (.eptr [.str a.name, .slc (ints a.params), .int .i64 a.result, .int .i64 a.body.op, .int .i64 a.body.n, .str a.body.s, .slc (a.body.args.map E.pv)]) := index_fn (by omega) h
theorem xof_call {fs : List Fn} {cols params : List Int} {e : E} {ts : List Int} (hts : ts.length = e.args.length) (hn : ts.length ≤ LIM) (hp : ∀ f ∈ fs, f.params.length ≤ LIM) (hs : (e.s.toList == (ByteArray.mk #[]).toList) = true) (h22 : e.op = 22) : XofGoal fs cols params e ts (callTy fs e.n ts) := by
  unfold XofGoal callTy
  have hl0 : (((ints ts).length : Int) == 0) = true ∨ (((ints ts).length : Int) == 0) = false := by cases (((ints ts).length : Int) == 0) <;> simp
  by_cases h : e.n < 0
  · have h' : ¬ (0 ≤ e.n ∧ e.n < fs.length) := by omega
    rw [if_neg h']
    refine Gives.no (t := 0) ?_
    rcases hl0 with hl0 | hl0
    · rw [xof_e3]; simp only [xof_l3, xof_b, xof_rs, Try.f65, Int.lt_irrefl, F.EVT, Am.splice, Am.enterN, Am.freshMem, Am.cA, Am.cB, Am.cK, Am.cL, Am.cS, Am.cT, Am.cE, Am.aresults, Am.aresult, Am.codeKey, Am.frzTop, Am.spliceP, Nat.reduceAdd, Nat.reduceLeDiff, Nat.reduceBEq, Nat.reduceEqDiff, reduceIte, reduceCtorEq, Nat.reduceSub, Int.reduceBEq, Int.reduceSub, Int.reduceAdd, Int.reduceToNat, Int.reduceLT, Int.reduceLE, Int.reduceEq, Int.reduceNeg, Int.reduceBNe, Int.reduceGT, Int.reduceGE, Nat.reduceMul, Nat.reduceMod, Nat.reduceDiv]
      simp only [xof_k3, xof_b, xof_rs, Try.f65, hs, h22, hl0, h, F.EVT, Am.splice, Am.enterN, Am.freshMem, Am.cA, Am.cB, Am.cK, Am.cL, Am.cS, Am.cT, Am.cE, Am.aresults, Am.aresult, Am.codeKey, Am.frzTop, Am.spliceP, Nat.reduceAdd, Nat.reduceLeDiff, Nat.reduceBEq, Nat.reduceEqDiff, reduceIte, reduceCtorEq, Nat.reduceSub, Int.reduceBEq, Int.reduceSub, Int.reduceAdd, Int.reduceToNat, Int.reduceLT, Int.reduceLE, Int.reduceEq, Int.reduceNeg, Int.reduceBNe, Int.reduceGT, Int.reduceGE, Nat.reduceMul, Nat.reduceMod, Nat.reduceDiv]
      try rfl
    · rw [xof_e3]; simp only [xof_l3, xof_b, xof_rs, Try.f65, Int.lt_irrefl, F.EVT, Am.splice, Am.enterN, Am.freshMem, Am.cA, Am.cB, Am.cK, Am.cL, Am.cS, Am.cT, Am.cE, Am.aresults, Am.aresult, Am.codeKey, Am.frzTop, Am.spliceP, Nat.reduceAdd, Nat.reduceLeDiff, Nat.reduceBEq, Nat.reduceEqDiff, reduceIte, reduceCtorEq, Nat.reduceSub, Int.reduceBEq, Int.reduceSub, Int.reduceAdd, Int.reduceToNat, Int.reduceLT, Int.reduceLE, Int.reduceEq, Int.reduceNeg, Int.reduceBNe, Int.reduceGT, Int.reduceGE, Nat.reduceMul, Nat.reduceMod, Nat.reduceDiv]
      simp only [xof_k3, xof_b, xof_rs, Try.f65, hs, h22, hl0, h, F.EVT, Am.splice, Am.enterN, Am.freshMem, Am.cA, Am.cB, Am.cK, Am.cL, Am.cS, Am.cT, Am.cE, Am.aresults, Am.aresult, Am.codeKey, Am.frzTop, Am.spliceP, Nat.reduceAdd, Nat.reduceLeDiff, Nat.reduceBEq, Nat.reduceEqDiff, reduceIte, reduceCtorEq, Nat.reduceSub, Int.reduceBEq, Int.reduceSub, Int.reduceAdd, Int.reduceToNat, Int.reduceLT, Int.reduceLE, Int.reduceEq, Int.reduceNeg, Int.reduceBNe, Int.reduceGT, Int.reduceGE, Nat.reduceMul, Nat.reduceMod, Nat.reduceDiv]
      try rfl
  · by_cases h2 : e.n ≥ fs.length
    · have h' : ¬ (0 ≤ e.n ∧ e.n < fs.length) := by omega
      rw [if_neg h']
      refine Gives.no (t := 0) ?_
      rcases hl0 with hl0 | hl0
      · rw [xof_e3]; simp only [xof_l3, xof_b, xof_rs, Try.f65, Int.lt_irrefl, F.EVT, Am.splice, Am.enterN, Am.freshMem, Am.cA, Am.cB, Am.cK, Am.cL, Am.cS, Am.cT, Am.cE, Am.aresults, Am.aresult, Am.codeKey, Am.frzTop, Am.spliceP, Nat.reduceAdd, Nat.reduceLeDiff, Nat.reduceBEq, Nat.reduceEqDiff, reduceIte, reduceCtorEq, Nat.reduceSub, Int.reduceBEq, Int.reduceSub, Int.reduceAdd, Int.reduceToNat, Int.reduceLT, Int.reduceLE, Int.reduceEq, Int.reduceNeg, Int.reduceBNe, Int.reduceGT, Int.reduceGE, Nat.reduceMul, Nat.reduceMod, Nat.reduceDiv]
        simp only [xof_k3, xof_b, xof_rs, Try.f65, hs, h22, hl0, h, h2, F.EVT, Am.splice, Am.enterN, Am.freshMem, Am.cA, Am.cB, Am.cK, Am.cL, Am.cS, Am.cT, Am.cE, Am.aresults, Am.aresult, Am.codeKey, Am.frzTop, Am.spliceP, Nat.reduceAdd, Nat.reduceLeDiff, Nat.reduceBEq, Nat.reduceEqDiff, reduceIte, reduceCtorEq, Nat.reduceSub, Int.reduceBEq, Int.reduceSub, Int.reduceAdd, Int.reduceToNat, Int.reduceLT, Int.reduceLE, Int.reduceEq, Int.reduceNeg, Int.reduceBNe, Int.reduceGT, Int.reduceGE, Nat.reduceMul, Nat.reduceMod, Nat.reduceDiv]
        try rfl
      · rw [xof_e3]; simp only [xof_l3, xof_b, xof_rs, Try.f65, Int.lt_irrefl, F.EVT, Am.splice, Am.enterN, Am.freshMem, Am.cA, Am.cB, Am.cK, Am.cL, Am.cS, Am.cT, Am.cE, Am.aresults, Am.aresult, Am.codeKey, Am.frzTop, Am.spliceP, Nat.reduceAdd, Nat.reduceLeDiff, Nat.reduceBEq, Nat.reduceEqDiff, reduceIte, reduceCtorEq, Nat.reduceSub, Int.reduceBEq, Int.reduceSub, Int.reduceAdd, Int.reduceToNat, Int.reduceLT, Int.reduceLE, Int.reduceEq, Int.reduceNeg, Int.reduceBNe, Int.reduceGT, Int.reduceGE, Nat.reduceMul, Nat.reduceMod, Nat.reduceDiv]
        simp only [xof_k3, xof_b, xof_rs, Try.f65, hs, h22, hl0, h, h2, F.EVT, Am.splice, Am.enterN, Am.freshMem, Am.cA, Am.cB, Am.cK, Am.cL, Am.cS, Am.cT, Am.cE, Am.aresults, Am.aresult, Am.codeKey, Am.frzTop, Am.spliceP, Nat.reduceAdd, Nat.reduceLeDiff, Nat.reduceBEq, Nat.reduceEqDiff, reduceIte, reduceCtorEq, Nat.reduceSub, Int.reduceBEq, Int.reduceSub, Int.reduceAdd, Int.reduceToNat, Int.reduceLT, Int.reduceLE, Int.reduceEq, Int.reduceNeg, Int.reduceBNe, Int.reduceGT, Int.reduceGE, Nat.reduceMul, Nat.reduceMod, Nat.reduceDiv]
        try rfl
    · have hlt : e.n.toNat < fs.length := by omega
      have hf : fs[e.n.toNat]? = some fs[e.n.toNat] := List.getElem?_eq_getElem hlt
      have hpf := hp _ (List.getElem_mem hlt)
      rw [if_pos ⟨by omega, by omega⟩, hf]
      generalize fs[e.n.toNat] = f at hf hpf
      simp only
      have hq := sEqual_ok (l := f.params) (k := ts) hpf
      by_cases hl : f.params = ts
      · rw [if_pos hl]
        rw [decide_eq_true hl] at hq
        refine Gives.yes ?_
        rcases hl0 with hl0 | hl0
        · rw [xof_e3]; simp only [xof_l3, xof_b, xof_rs, Try.f65, Int.lt_irrefl, F.EVT, Am.splice, Am.enterN, Am.freshMem, Am.cA, Am.cB, Am.cK, Am.cL, Am.cS, Am.cT, Am.cE, Am.aresults, Am.aresult, Am.codeKey, Am.frzTop, Am.spliceP, Nat.reduceAdd, Nat.reduceLeDiff, Nat.reduceBEq, Nat.reduceEqDiff, reduceIte, reduceCtorEq, Nat.reduceSub, Int.reduceBEq, Int.reduceSub, Int.reduceAdd, Int.reduceToNat, Int.reduceLT, Int.reduceLE, Int.reduceEq, Int.reduceNeg, Int.reduceBNe, Int.reduceGT, Int.reduceGE, Nat.reduceMul, Nat.reduceMod, Nat.reduceDiv]
          simp only [xof_k3, xof_b, xof_rs, Try.f65, hs, h22, hl0, h, h2, index_fn' h hf, hq, F.EVT, Am.splice, Am.enterN, Am.freshMem, Am.cA, Am.cB, Am.cK, Am.cL, Am.cS, Am.cT, Am.cE, Am.aresults, Am.aresult, Am.codeKey, Am.frzTop, Am.spliceP, Nat.reduceAdd, Nat.reduceLeDiff, Nat.reduceBEq, Nat.reduceEqDiff, reduceIte, reduceCtorEq, Nat.reduceSub, Int.reduceBEq, Int.reduceSub, Int.reduceAdd, Int.reduceToNat, Int.reduceLT, Int.reduceLE, Int.reduceEq, Int.reduceNeg, Int.reduceBNe, Int.reduceGT, Int.reduceGE, Nat.reduceMul, Nat.reduceMod, Nat.reduceDiv]
          try rfl
        · rw [xof_e3]; simp only [xof_l3, xof_b, xof_rs, Try.f65, Int.lt_irrefl, F.EVT, Am.splice, Am.enterN, Am.freshMem, Am.cA, Am.cB, Am.cK, Am.cL, Am.cS, Am.cT, Am.cE, Am.aresults, Am.aresult, Am.codeKey, Am.frzTop, Am.spliceP, Nat.reduceAdd, Nat.reduceLeDiff, Nat.reduceBEq, Nat.reduceEqDiff, reduceIte, reduceCtorEq, Nat.reduceSub, Int.reduceBEq, Int.reduceSub, Int.reduceAdd, Int.reduceToNat, Int.reduceLT, Int.reduceLE, Int.reduceEq, Int.reduceNeg, Int.reduceBNe, Int.reduceGT, Int.reduceGE, Nat.reduceMul, Nat.reduceMod, Nat.reduceDiv]
          simp only [xof_k3, xof_b, xof_rs, Try.f65, hs, h22, hl0, h, h2, index_fn' h hf, hq, F.EVT, Am.splice, Am.enterN, Am.freshMem, Am.cA, Am.cB, Am.cK, Am.cL, Am.cS, Am.cT, Am.cE, Am.aresults, Am.aresult, Am.codeKey, Am.frzTop, Am.spliceP, Nat.reduceAdd, Nat.reduceLeDiff, Nat.reduceBEq, Nat.reduceEqDiff, reduceIte, reduceCtorEq, Nat.reduceSub, Int.reduceBEq, Int.reduceSub, Int.reduceAdd, Int.reduceToNat, Int.reduceLT, Int.reduceLE, Int.reduceEq, Int.reduceNeg, Int.reduceBNe, Int.reduceGT, Int.reduceGE, Nat.reduceMul, Nat.reduceMod, Nat.reduceDiv]
          try rfl
      · rw [if_neg hl]
        rw [decide_eq_false hl] at hq
        refine Gives.no (t := 0) ?_
        rcases hl0 with hl0 | hl0
        · rw [xof_e3]; simp only [xof_l3, xof_b, xof_rs, Try.f65, Int.lt_irrefl, F.EVT, Am.splice, Am.enterN, Am.freshMem, Am.cA, Am.cB, Am.cK, Am.cL, Am.cS, Am.cT, Am.cE, Am.aresults, Am.aresult, Am.codeKey, Am.frzTop, Am.spliceP, Nat.reduceAdd, Nat.reduceLeDiff, Nat.reduceBEq, Nat.reduceEqDiff, reduceIte, reduceCtorEq, Nat.reduceSub, Int.reduceBEq, Int.reduceSub, Int.reduceAdd, Int.reduceToNat, Int.reduceLT, Int.reduceLE, Int.reduceEq, Int.reduceNeg, Int.reduceBNe, Int.reduceGT, Int.reduceGE, Nat.reduceMul, Nat.reduceMod, Nat.reduceDiv]
          simp only [xof_k3, xof_b, xof_rs, Try.f65, hs, h22, hl0, h, h2, index_fn' h hf, hq, F.EVT, Am.splice, Am.enterN, Am.freshMem, Am.cA, Am.cB, Am.cK, Am.cL, Am.cS, Am.cT, Am.cE, Am.aresults, Am.aresult, Am.codeKey, Am.frzTop, Am.spliceP, Nat.reduceAdd, Nat.reduceLeDiff, Nat.reduceBEq, Nat.reduceEqDiff, reduceIte, reduceCtorEq, Nat.reduceSub, Int.reduceBEq, Int.reduceSub, Int.reduceAdd, Int.reduceToNat, Int.reduceLT, Int.reduceLE, Int.reduceEq, Int.reduceNeg, Int.reduceBNe, Int.reduceGT, Int.reduceGE, Nat.reduceMul, Nat.reduceMod, Nat.reduceDiv]
          try rfl
        · rw [xof_e3]; simp only [xof_l3, xof_b, xof_rs, Try.f65, Int.lt_irrefl, F.EVT, Am.splice, Am.enterN, Am.freshMem, Am.cA, Am.cB, Am.cK, Am.cL, Am.cS, Am.cT, Am.cE, Am.aresults, Am.aresult, Am.codeKey, Am.frzTop, Am.spliceP, Nat.reduceAdd, Nat.reduceLeDiff, Nat.reduceBEq, Nat.reduceEqDiff, reduceIte, reduceCtorEq, Nat.reduceSub, Int.reduceBEq, Int.reduceSub, Int.reduceAdd, Int.reduceToNat, Int.reduceLT, Int.reduceLE, Int.reduceEq, Int.reduceNeg, Int.reduceBNe, Int.reduceGT, Int.reduceGE, Nat.reduceMul, Nat.reduceMod, Nat.reduceDiv]
          simp only [xof_k3, xof_b, xof_rs, Try.f65, hs, h22, hl0, h, h2, index_fn' h hf, hq, F.EVT, Am.splice, Am.enterN, Am.freshMem, Am.cA, Am.cB, Am.cK, Am.cL, Am.cS, Am.cT, Am.cE, Am.aresults, Am.aresult, Am.codeKey, Am.frzTop, Am.spliceP, Nat.reduceAdd, Nat.reduceLeDiff, Nat.reduceBEq, Nat.reduceEqDiff, reduceIte, reduceCtorEq, Nat.reduceSub, Int.reduceBEq, Int.reduceSub, Int.reduceAdd, Int.reduceToNat, Int.reduceLT, Int.reduceLE, Int.reduceEq, Int.reduceNeg, Int.reduceBNe, Int.reduceGT, Int.reduceGE, Nat.reduceMul, Nat.reduceMod, Nat.reduceDiv]
          try rfl
theorem xof_op {fs : List Fn} {cols params : List Int} {e : E} {ts : List Int} (hts : ts.length = e.args.length) (hn : ts.length ≤ LIM) (hne : ts ≠ []) (hs : (e.s.toList == (ByteArray.mk #[]).toList) = true ∨ e.op = 1) (h22 : e.op ≠ 22) : XofGoal fs cols params e ts (opTy e.op e.n ts) := by
  unfold XofGoal
  obtain ⟨t, ht, hu⟩ := operation_ok (e := e) hn hne
  simp only [E.av] at ht
  refine Gives.same (t := t) (b := (opTy e.op e.n ts).isSome) ?_ rfl hu
  generalize (opTy e.op e.n ts).isSome = bb at ht
  have hl0 : ((ts.length : Int) == 0) = false := beq_no (by have := List.length_pos_iff.2 hne; omega)
  rcases hs with hs | h1
  · rw [xof_e3]; simp only [xof_l3, xof_b, xof_rs, Try.f65, Int.lt_irrefl, F.EVT, Am.splice, Am.enterN, Am.freshMem, Am.cA, Am.cB, Am.cK, Am.cL, Am.cS, Am.cT, Am.cE, Am.aresults, Am.aresult, Am.codeKey, Am.frzTop, Am.spliceP, Nat.reduceAdd, Nat.reduceLeDiff, Nat.reduceBEq, Nat.reduceEqDiff, reduceIte, reduceCtorEq, Nat.reduceSub, Int.reduceBEq, Int.reduceSub, Int.reduceAdd, Int.reduceToNat, Int.reduceLT, Int.reduceLE, Int.reduceEq, Int.reduceNeg, Int.reduceBNe, Int.reduceGT, Int.reduceGE, Nat.reduceMul, Nat.reduceMod, Nat.reduceDiv]
    simp only [xof_k3, xof_b, xof_rs, Try.f65, hs, ints_len, hl0, beq_no h22, ht, F.EVT, Am.splice, Am.enterN, Am.freshMem, Am.cA, Am.cB, Am.cK, Am.cL, Am.cS, Am.cT, Am.cE, Am.aresults, Am.aresult, Am.codeKey, Am.frzTop, Am.spliceP, Nat.reduceAdd, Nat.reduceLeDiff, Nat.reduceBEq, Nat.reduceEqDiff, reduceIte, reduceCtorEq, Nat.reduceSub, Int.reduceBEq, Int.reduceSub, Int.reduceAdd, Int.reduceToNat, Int.reduceLT, Int.reduceLE, Int.reduceEq, Int.reduceNeg, Int.reduceBNe, Int.reduceGT, Int.reduceGE, Nat.reduceMul, Nat.reduceMod, Nat.reduceDiv]
    try rfl
  · rw [h1] at ht
    cases hs : (e.s.toList == (ByteArray.mk #[]).toList)
    · rw [xof_e3]; simp only [xof_l3, xof_b, xof_rs, Try.f65, Int.lt_irrefl, F.EVT, Am.splice, Am.enterN, Am.freshMem, Am.cA, Am.cB, Am.cK, Am.cL, Am.cS, Am.cT, Am.cE, Am.aresults, Am.aresult, Am.codeKey, Am.frzTop, Am.spliceP, Nat.reduceAdd, Nat.reduceLeDiff, Nat.reduceBEq, Nat.reduceEqDiff, reduceIte, reduceCtorEq, Nat.reduceSub, Int.reduceBEq, Int.reduceSub, Int.reduceAdd, Int.reduceToNat, Int.reduceLT, Int.reduceLE, Int.reduceEq, Int.reduceNeg, Int.reduceBNe, Int.reduceGT, Int.reduceGE, Nat.reduceMul, Nat.reduceMod, Nat.reduceDiv]
      simp only [xof_k3, xof_b, xof_rs, Try.f65, hs, ints_len, hl0, h1, ht, F.EVT, Am.splice, Am.enterN, Am.freshMem, Am.cA, Am.cB, Am.cK, Am.cL, Am.cS, Am.cT, Am.cE, Am.aresults, Am.aresult, Am.codeKey, Am.frzTop, Am.spliceP, Nat.reduceAdd, Nat.reduceLeDiff, Nat.reduceBEq, Nat.reduceEqDiff, reduceIte, reduceCtorEq, Nat.reduceSub, Int.reduceBEq, Int.reduceSub, Int.reduceAdd, Int.reduceToNat, Int.reduceLT, Int.reduceLE, Int.reduceEq, Int.reduceNeg, Int.reduceBNe, Int.reduceGT, Int.reduceGE, Nat.reduceMul, Nat.reduceMod, Nat.reduceDiv]
      try rfl
    · rw [xof_e3]; simp only [xof_l3, xof_b, xof_rs, Try.f65, Int.lt_irrefl, F.EVT, Am.splice, Am.enterN, Am.freshMem, Am.cA, Am.cB, Am.cK, Am.cL, Am.cS, Am.cT, Am.cE, Am.aresults, Am.aresult, Am.codeKey, Am.frzTop, Am.spliceP, Nat.reduceAdd, Nat.reduceLeDiff, Nat.reduceBEq, Nat.reduceEqDiff, reduceIte, reduceCtorEq, Nat.reduceSub, Int.reduceBEq, Int.reduceSub, Int.reduceAdd, Int.reduceToNat, Int.reduceLT, Int.reduceLE, Int.reduceEq, Int.reduceNeg, Int.reduceBNe, Int.reduceGT, Int.reduceGE, Nat.reduceMul, Nat.reduceMod, Nat.reduceDiv]
      simp only [xof_k3, xof_b, xof_rs, Try.f65, hs, ints_len, hl0, h1, ht, F.EVT, Am.splice, Am.enterN, Am.freshMem, Am.cA, Am.cB, Am.cK, Am.cL, Am.cS, Am.cT, Am.cE, Am.aresults, Am.aresult, Am.codeKey, Am.frzTop, Am.spliceP, Nat.reduceAdd, Nat.reduceLeDiff, Nat.reduceBEq, Nat.reduceEqDiff, reduceIte, reduceCtorEq, Nat.reduceSub, Int.reduceBEq, Int.reduceSub, Int.reduceAdd, Int.reduceToNat, Int.reduceLT, Int.reduceLE, Int.reduceEq, Int.reduceNeg, Int.reduceBNe, Int.reduceGT, Int.reduceGE, Nat.reduceMul, Nat.reduceMod, Nat.reduceDiv]
      try rfl
theorem xof_text {fs : List Fn} {cols params : List Int} {e : E} {ts : List Int} (hs : (e.s.toList == (ByteArray.mk #[]).toList) = false) (h1 : e.op ≠ 1) : XofGoal fs cols params e ts none := by
  unfold XofGoal
  refine Gives.no (t := 0) ?_
  rw [xof_e3]; simp only [xof_l3, xof_b, xof_rs, Try.f65, Int.lt_irrefl, F.EVT, Am.splice, Am.enterN, Am.freshMem, Am.cA, Am.cB, Am.cK, Am.cL, Am.cS, Am.cT, Am.cE, Am.aresults, Am.aresult, Am.codeKey, Am.frzTop, Am.spliceP, Nat.reduceAdd, Nat.reduceLeDiff, Nat.reduceBEq, Nat.reduceEqDiff, reduceIte, reduceCtorEq, Nat.reduceSub, Int.reduceBEq, Int.reduceSub, Int.reduceAdd, Int.reduceToNat, Int.reduceLT, Int.reduceLE, Int.reduceEq, Int.reduceNeg, Int.reduceBNe, Int.reduceGT, Int.reduceGE, Nat.reduceMul, Nat.reduceMod, Nat.reduceDiv]
  simp only [xof_k3, xof_b, xof_rs, Try.f65, hs, bne_no h1, F.EVT, Am.splice, Am.enterN, Am.freshMem, Am.cA, Am.cB, Am.cK, Am.cL, Am.cS, Am.cT, Am.cE, Am.aresults, Am.aresult, Am.codeKey, Am.frzTop, Am.spliceP, Nat.reduceAdd, Nat.reduceLeDiff, Nat.reduceBEq, Nat.reduceEqDiff, reduceIte, reduceCtorEq, Nat.reduceSub, Int.reduceBEq, Int.reduceSub, Int.reduceAdd, Int.reduceToNat, Int.reduceLT, Int.reduceLE, Int.reduceEq, Int.reduceNeg, Int.reduceBNe, Int.reduceGT, Int.reduceGE, Nat.reduceMul, Nat.reduceMod, Nat.reduceDiv]
  try rfl
theorem xof_end {fs : List Fn} {cols params : List Int} {e : E} {ts : List Int} (hts : ts.length = e.args.length) (hn : ts.length ≤ LIM) (hp : ∀ f ∈ fs, f.params.length ≤ LIM) : XofGoal fs cols params e ts (tyOp fs cols params e.op e.n e.s ts) := by
  unfold tyOp
  by_cases hS : noS e.s = true
  · have hs : (e.s.toList == (ByteArray.mk #[]).toList) = true := hS
    rw [if_neg (by simp [hS])]
    by_cases h22 : e.op = 22
    · rw [if_pos h22]; exact xof_call hts hn hp hs h22
    · rw [if_neg h22]
      by_cases hne : ts = []
      · subst hne
        exact xof_leaf (by simpa using hts.symm) (.inl hs) h22
      · rw [← opTy_eq hne]; exact xof_op hts hn hne (.inl hs) h22
  · have hS' : noS e.s = false := by simpa using hS
    have hs : (e.s.toList == (ByteArray.mk #[]).toList) = false := hS'
    by_cases h1 : e.op = 1
    · rw [if_neg (fun q => q.2 h1), if_neg (by omega)]
      by_cases hne : ts = []
      · subst hne
        exact xof_leaf (by simpa using hts.symm) (.inr h1) (by omega)
      · rw [← opTy_eq hne]; exact xof_op hts hn hne (.inr h1) (by omega)
    · rw [if_pos ⟨hS', h1⟩]
      exact xof_text hs h1
theorem xof_ok {fs : List Fn} {cols params : List Int} (hp : ∀ f ∈ fs, f.params.length ≤ LIM) : ∀ e : E, parts e ≤ 1000000 → Gives (RR 65 [scv fs cols params, e.av] []) (ty fs cols params e) := by
  apply E.ind
  intro e ih hpe
  have hp' := hpe
  rw [parts_eq] at hp'
  have hn : e.args.length ≤ 1000000 := by have := partsL_len e.args; omega
  rw [ty_eq]
  have hloop := xof_loop (fun a ha => ih a ha (by have := partsL_mem ha; omega)) hn (fun ts hts => xof_end (fs := fs) (cols := cols) (params := params) hts (by simp only [LIM]; omega) hp) e.args 0 []
  simp only [List.nil_append] at hloop
  refine Gives.mono (x := leaveR PP xof_rs ([] : List Mem).length (acodeX PP RR [] xof_L xof_b (enterN 90 xof_h [scv fs cols params, e.av] []))) ?_ (fun r h => xof_r h)
  simp only [xof_b, xof_h, xof_rs, Try.f65, E.av, F.EVT, Am.splice, Am.enterN, Am.freshMem, Am.cA, Am.cB, Am.cK, Am.cL, Am.cS, Am.cT, Am.cE, Am.aresults, Am.aresult, Am.codeKey, Am.frzTop, Am.spliceP, Nat.reduceAdd, Nat.reduceLeDiff, Nat.reduceBEq, Nat.reduceEqDiff, reduceIte, reduceCtorEq, Nat.reduceSub, Int.reduceBEq, Int.reduceSub, Int.reduceAdd, Int.reduceToNat, Int.reduceLT, Int.reduceLE, Int.reduceEq, Int.reduceNeg, Int.reduceBNe, Int.reduceGT, Int.reduceGE, Nat.reduceMul, Nat.reduceMod, Nat.reduceDiv]
  exact hloop _ rfl (Nat.zero_le _) rfl (by kernel_rfl)
end Go.Proofs.Ytjbmdfdgeioecaa.X
