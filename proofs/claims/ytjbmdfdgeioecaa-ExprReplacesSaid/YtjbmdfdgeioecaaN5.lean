/- Types of expressions, as the document's answer gives them: calls, expressions. -/
import Derived.Test.YtjbmdfdgeioecaaN4
namespace Go.Proofs.Ytjbmdfdgeioecaa.X
open Go.Proofs.Ytjbmdfdgeioecaa.Am Go.Proofs.Ytjbmdfdgeioecaa.F
set_option linter.unusedVariables false
set_option linter.unusedSimpArgs false
set_option maxRecDepth 100000
theorem bne_no {a b : Int} (h : a ≠ b) : (a != b) = true := by simpa using h
abbrev fmem (f : Fn) : List AV := [.pv (.str f.name), .pv (.slc (ints f.params)), .pv (.int .i64 f.result), .pv (.int .i64 f.body.op), .pv (.int .i64 f.body.n), .pv (.str f.body.s), .pv (.slc (f.body.args.map E.pv))]
theorem rcall_loop {f : Fn} {l : List Int} (hlen : f.params.length = l.length) (hn : l.length ≤ LIM) : ∀ (xs : List Int) (i : Nat) (st : St), l.drop i = xs → i ≤ l.length → f.params.take i = l.take i →
    St.forget (rcall_h.at 7) st = rcall_t7 (.pv (.slc (ints l))) (.ptr none 8 0) (I i) [⟨[(8, fmem f)], []⟩] → Gives (leaveR PP rcall_rs 0 (thenC (blockC 0 (rcall_L 7 st)) (acodeX PP RR [] rcall_L rcall_k7))) (if f.params = l then some f.result else none)
  | [], i, st, h, hle, heq, hst => by
    have he : i = l.length := by have := drop_nil' h; omega
    subst he
    have hfl : f.params = l := by rw [List.take_length, ← hlen, List.take_length] at heq; exact heq
    rw [if_pos hfl, rcall_q7, hst]
    refine Gives.yes ?_
    rw [rcall_e7]; simp only [rcall_k7, rcall_l7, rcall_b, rcall_rs, Try.f99, Int.lt_irrefl, ints_len, F.EVT, Am.splice, Am.enterN, Am.freshMem, Am.cA, Am.cB, Am.cK, Am.cL, Am.cS, Am.cT, Am.cE, Am.aresults, Am.aresult, Am.codeKey, Am.frzTop, Am.spliceP, Nat.reduceAdd, Nat.reduceLeDiff, Nat.reduceBEq, Nat.reduceEqDiff, reduceIte, reduceCtorEq, Nat.reduceSub, Int.reduceBEq, Int.reduceSub, Int.reduceAdd, Int.reduceToNat, Int.reduceLT, Int.reduceLE, Int.reduceEq, Int.reduceNeg, Int.reduceBNe, Int.reduceGT, Int.reduceGE, Nat.reduceMul, Nat.reduceMod, Nat.reduceDiv]
  | x :: xs, i, st, h, hle, heq, hst => by
    obtain ⟨hlt, hi, hd⟩ := drop_cons h
    have hlt' : (i : Int) < l.length := by omega
    have hp : f.params[i]? = some (f.params[i]'(by omega)) := List.getElem?_eq_getElem (by omega)
    generalize f.params[i]'(by omega) = y at hp
    rw [rcall_q7, hst]
    by_cases hxy : x = y
    · subst hxy
      rw [rcall_e7]; simp only [rcall_k7, rcall_l7, rcall_b, rcall_rs, Try.f99, index_I hi, index_I hp, hlt', bne_self_eq_false, wrapS hlt hn, ints_len, F.EVT, Am.splice, Am.enterN, Am.freshMem, Am.cA, Am.cB, Am.cK, Am.cL, Am.cS, Am.cT, Am.cE, Am.aresults, Am.aresult, Am.codeKey, Am.frzTop, Am.spliceP, Nat.reduceAdd, Nat.reduceLeDiff, Nat.reduceBEq, Nat.reduceEqDiff, reduceIte, reduceCtorEq, Nat.reduceSub, Int.reduceBEq, Int.reduceSub, Int.reduceAdd, Int.reduceToNat, Int.reduceLT, Int.reduceLE, Int.reduceEq, Int.reduceNeg, Int.reduceBNe, Int.reduceGT, Int.reduceGE, Nat.reduceMul, Nat.reduceMod, Nat.reduceDiv]
      refine rcall_loop hlen hn xs (i + 1) _ hd hlt ?_ (by kernel_rfl)
      rw [List.take_add_one, List.take_add_one, heq, hi, hp]
    · have hne : f.params ≠ l := fun e => by rw [e, hi] at hp; cases hp; exact hxy rfl
      rw [if_neg hne]
      refine Gives.no (t := 0) ?_
      rw [rcall_e7]; simp only [rcall_k7, rcall_l7, rcall_b, rcall_rs, Try.f99, index_I hi, index_I hp, hlt', bne_no hxy, ints_len, F.EVT, Am.splice, Am.enterN, Am.freshMem, Am.cA, Am.cB, Am.cK, Am.cL, Am.cS, Am.cT, Am.cE, Am.aresults, Am.aresult, Am.codeKey, Am.frzTop, Am.spliceP, Nat.reduceAdd, Nat.reduceLeDiff, Nat.reduceBEq, Nat.reduceEqDiff, reduceIte, reduceCtorEq, Nat.reduceSub, Int.reduceBEq, Int.reduceSub, Int.reduceAdd, Int.reduceToNat, Int.reduceLT, Int.reduceLE, Int.reduceEq, Int.reduceNeg, Int.reduceBNe, Int.reduceGT, Int.reduceGE, Nat.reduceMul, Nat.reduceMod, Nat.reduceDiv]
theorem rcall_ok (fs : List Fn) (n : Int) (l : List Int) (hn : l.length ≤ LIM) : Gives (RR 99 [.pv (.slc (fs.map Fn.pv)), I n, .pv (.slc (ints l))] []) (callTy fs n l) := by
  unfold callTy
  have up : ∀ {x : Option (AV × List Mem)} {o : Option Int}, Gives x o → (∀ r, x = some r → RR 99 [.pv (.slc (fs.map Fn.pv)), I n, .pv (.slc (ints l))] [] = some r) → Gives (RR 99 [.pv (.slc (fs.map Fn.pv)), I n, .pv (.slc (ints l))] []) o :=
    fun ⟨t, h1, h2⟩ h => ⟨t, h _ h1, h2⟩
  by_cases h : n < 0
  · have h' : ¬ (0 ≤ n ∧ n < fs.length) := by omega
    rw [if_neg h']
    refine Gives.no (t := 0) ?_
    apply rcall_r
    simp only [rcall_b, rcall_h, rcall_rs, Try.f99, h, F.EVT, Am.splice, Am.enterN, Am.freshMem, Am.cA, Am.cB, Am.cK, Am.cL, Am.cS, Am.cT, Am.cE, Am.aresults, Am.aresult, Am.codeKey, Am.frzTop, Am.spliceP, Nat.reduceAdd, Nat.reduceLeDiff, Nat.reduceBEq, Nat.reduceEqDiff, reduceIte, reduceCtorEq, Nat.reduceSub, Int.reduceBEq, Int.reduceSub, Int.reduceAdd, Int.reduceToNat, Int.reduceLT, Int.reduceLE, Int.reduceEq, Int.reduceNeg, Int.reduceBNe, Int.reduceGT, Int.reduceGE, Nat.reduceMul, Nat.reduceMod, Nat.reduceDiv]
  · by_cases h2 : n ≥ fs.length
    · have h' : ¬ (0 ≤ n ∧ n < fs.length) := by omega
      rw [if_neg h']
      refine Gives.no (t := 0) ?_
      apply rcall_r
      simp only [rcall_b, rcall_h, rcall_rs, Try.f99, h, h2, F.EVT, Am.splice, Am.enterN, Am.freshMem, Am.cA, Am.cB, Am.cK, Am.cL, Am.cS, Am.cT, Am.cE, Am.aresults, Am.aresult, Am.codeKey, Am.frzTop, Am.spliceP, Nat.reduceAdd, Nat.reduceLeDiff, Nat.reduceBEq, Nat.reduceEqDiff, reduceIte, reduceCtorEq, Nat.reduceSub, Int.reduceBEq, Int.reduceSub, Int.reduceAdd, Int.reduceToNat, Int.reduceLT, Int.reduceLE, Int.reduceEq, Int.reduceNeg, Int.reduceBNe, Int.reduceGT, Int.reduceGE, Nat.reduceMul, Nat.reduceMod, Nat.reduceDiv]
    · have h0 : 0 ≤ n := by omega
      have hlt : n.toNat < fs.length := by omega
      have hf : fs[n.toNat]? = some fs[n.toNat] := List.getElem?_eq_getElem hlt
      rw [if_pos ⟨h0, by omega⟩, hf]
      generalize fs[n.toNat] = f at hf
      refine up (x := leaveR PP rcall_rs ([] : List Mem).length (acodeX PP RR [] rcall_L rcall_b (enterN 46 rcall_h [.pv (.slc (fs.map Fn.pv)), I n, .pv (.slc (ints l))] []))) ?_ (fun r h => rcall_r h)
      simp only
      by_cases hl : f.params.length = l.length
      · have hl' : (((f.params.length : Int)) != (l.length : Int)) = false := by simp [hl]
        simp only [rcall_b, rcall_h, rcall_rs, Try.f99, h, h2, index_fn h0 hf, ints_len, hl', F.EVT, Am.splice, Am.enterN, Am.freshMem, Am.cA, Am.cB, Am.cK, Am.cL, Am.cS, Am.cT, Am.cE, Am.aresults, Am.aresult, Am.codeKey, Am.frzTop, Am.spliceP, Nat.reduceAdd, Nat.reduceLeDiff, Nat.reduceBEq, Nat.reduceEqDiff, reduceIte, reduceCtorEq, Nat.reduceSub, Int.reduceBEq, Int.reduceSub, Int.reduceAdd, Int.reduceToNat, Int.reduceLT, Int.reduceLE, Int.reduceEq, Int.reduceNeg, Int.reduceBNe, Int.reduceGT, Int.reduceGE, Nat.reduceMul, Nat.reduceMod, Nat.reduceDiv]
        exact rcall_loop hl hn l 0 _ rfl (Nat.zero_le _) rfl (by kernel_rfl)
      · have hne : f.params ≠ l := fun e => hl (by rw [e])
        have hl' : (((f.params.length : Int)) != (l.length : Int)) = true := by simp; omega
        rw [if_neg hne]
        refine Gives.no (t := 0) ?_
        simp only [rcall_b, rcall_h, rcall_rs, Try.f99, h, h2, index_fn h0 hf, ints_len, hl', F.EVT, Am.splice, Am.enterN, Am.freshMem, Am.cA, Am.cB, Am.cK, Am.cL, Am.cS, Am.cT, Am.cE, Am.aresults, Am.aresult, Am.codeKey, Am.frzTop, Am.spliceP, Nat.reduceAdd, Nat.reduceLeDiff, Nat.reduceBEq, Nat.reduceEqDiff, reduceIte, reduceCtorEq, Nat.reduceSub, Int.reduceBEq, Int.reduceSub, Int.reduceAdd, Int.reduceToNat, Int.reduceLT, Int.reduceLE, Int.reduceEq, Int.reduceNeg, Int.reduceBNe, Int.reduceGT, Int.reduceGE, Nat.reduceMul, Nat.reduceMod, Nat.reduceDiv]
end Go.Proofs.Ytjbmdfdgeioecaa.X
