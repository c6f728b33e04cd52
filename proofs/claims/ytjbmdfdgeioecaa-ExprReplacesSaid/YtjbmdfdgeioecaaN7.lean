/- Types of expressions, as the document's answer gives them: the whole. -/
import Derived.Test.YtjbmdfdgeioecaaN6
namespace Go.Proofs.Ytjbmdfdgeioecaa.X
open Go.Proofs.Ytjbmdfdgeioecaa.Am Go.Proofs.Ytjbmdfdgeioecaa.F
set_option linter.unusedVariables false
set_option linter.unusedSimpArgs false
set_option maxRecDepth 100000
set_option maxHeartbeats 1000000
theorem rin_1s {fs : List Fn} {cols params : List Int} {e : E} {ts : List Int} (hs : (e.s.toList == (ByteArray.mk #[]).toList) = false) (hk : e.op = 1) (hts : ts.length = e.args.length) (ha : arity 1 = ts.length) : RinGoal fs cols params e ts (tyArgs cols params 1 e.n e.s ts) := by
  unfold RinGoal
  rw [rinner_e3]; simp only [rinner_l3, rinner_b, rinner_rs, Try.f90, Int.lt_irrefl, hts, F.EVT, Am.splice, Am.enterN, Am.freshMem, Am.cA, Am.cB, Am.cK, Am.cL, Am.cS, Am.cT, Am.cE, Am.aresults, Am.aresult, Am.codeKey, Am.frzTop, Am.spliceP, Nat.reduceAdd, Nat.reduceLeDiff, Nat.reduceBEq, Nat.reduceEqDiff, reduceIte, reduceCtorEq, Nat.reduceSub, Int.reduceBEq, Int.reduceSub, Int.reduceAdd, Int.reduceToNat, Int.reduceLT, Int.reduceLE, Int.reduceEq, Int.reduceNeg, Int.reduceBNe, Int.reduceGT, Int.reduceGE, Nat.reduceMul, Nat.reduceMod, Nat.reduceDiv]
  clear hts
  obtain rfl := len0 (l := ts) (by have h0 : arity 1 = 0 := rfl; omega)
  show Gives _ (if e.n = 0 ∧ (e.s.size : Int) ≤ 200 then some 1 else none)
  by_cases hn0 : e.n = 0
  · by_cases hz : (e.s.size : Int) ≤ 200
    · rw [if_pos ⟨hn0, hz⟩]
      refine Gives.yes (t := 1) ?_
      simp only [rinner_k3, rinner_b, rinner_rs, Try.f90, hk, hs, rnumber_ok, ints_len, show (arity 1 != ((0 : Nat) : Int)) = false from rfl, hn0, hz, F.EVT, Am.splice, Am.enterN, Am.freshMem, Am.cA, Am.cB, Am.cK, Am.cL, Am.cS, Am.cT, Am.cE, Am.aresults, Am.aresult, Am.codeKey, Am.frzTop, Am.spliceP, Nat.reduceAdd, Nat.reduceLeDiff, Nat.reduceBEq, Nat.reduceEqDiff, reduceIte, reduceCtorEq, Nat.reduceSub, Int.reduceBEq, Int.reduceSub, Int.reduceAdd, Int.reduceToNat, Int.reduceLT, Int.reduceLE, Int.reduceEq, Int.reduceNeg, Int.reduceBNe, Int.reduceGT, Int.reduceGE, Nat.reduceMul, Nat.reduceMod, Nat.reduceDiv]
    · rw [if_neg (fun q => hz q.2)]
      refine Gives.no (t := 1) ?_
      simp only [rinner_k3, rinner_b, rinner_rs, Try.f90, hk, hs, rnumber_ok, ints_len, show (arity 1 != ((0 : Nat) : Int)) = false from rfl, hn0, hz, F.EVT, Am.splice, Am.enterN, Am.freshMem, Am.cA, Am.cB, Am.cK, Am.cL, Am.cS, Am.cT, Am.cE, Am.aresults, Am.aresult, Am.codeKey, Am.frzTop, Am.spliceP, Nat.reduceAdd, Nat.reduceLeDiff, Nat.reduceBEq, Nat.reduceEqDiff, reduceIte, reduceCtorEq, Nat.reduceSub, Int.reduceBEq, Int.reduceSub, Int.reduceAdd, Int.reduceToNat, Int.reduceLT, Int.reduceLE, Int.reduceEq, Int.reduceNeg, Int.reduceBNe, Int.reduceGT, Int.reduceGE, Nat.reduceMul, Nat.reduceMod, Nat.reduceDiv]
  · rw [if_neg (fun q => hn0 q.1)]
    refine Gives.no (t := 0) ?_
    simp only [rinner_k3, rinner_b, rinner_rs, Try.f90, hk, hs, rnumber_ok, ints_len, show (arity 1 != ((0 : Nat) : Int)) = false from rfl, bne_no hn0, F.EVT, Am.splice, Am.enterN, Am.freshMem, Am.cA, Am.cB, Am.cK, Am.cL, Am.cS, Am.cT, Am.cE, Am.aresults, Am.aresult, Am.codeKey, Am.frzTop, Am.spliceP, Nat.reduceAdd, Nat.reduceLeDiff, Nat.reduceBEq, Nat.reduceEqDiff, reduceIte, reduceCtorEq, Nat.reduceSub, Int.reduceBEq, Int.reduceSub, Int.reduceAdd, Int.reduceToNat, Int.reduceLT, Int.reduceLE, Int.reduceEq, Int.reduceNeg, Int.reduceBNe, Int.reduceGT, Int.reduceGE, Nat.reduceMul, Nat.reduceMod, Nat.reduceDiv]
theorem rinner_end {fs : List Fn} {cols params : List Int} {e : E} {ts : List Int} (hts : ts.length = e.args.length) (hn : ts.length ≤ LIM) : RinGoal fs cols params e ts (tyOp fs cols params e.op e.n e.s ts) := by
  unfold tyOp
  by_cases hS : noS e.s = true
  · have hs : (e.s.toList == (ByteArray.mk #[]).toList) = true := hS
    rw [if_neg (by simp [hS])]
    by_cases h22 : e.op = 22
    · rw [if_pos h22]
      unfold RinGoal
      rw [rinner_e3]; simp only [rinner_l3, rinner_b, rinner_rs, Try.f90, Int.lt_irrefl, hts, F.EVT, Am.splice, Am.enterN, Am.freshMem, Am.cA, Am.cB, Am.cK, Am.cL, Am.cS, Am.cT, Am.cE, Am.aresults, Am.aresult, Am.codeKey, Am.frzTop, Am.spliceP, Nat.reduceAdd, Nat.reduceLeDiff, Nat.reduceBEq, Nat.reduceEqDiff, reduceIte, reduceCtorEq, Nat.reduceSub, Int.reduceBEq, Int.reduceSub, Int.reduceAdd, Int.reduceToNat, Int.reduceLT, Int.reduceLE, Int.reduceEq, Int.reduceNeg, Int.reduceBNe, Int.reduceGT, Int.reduceGE, Nat.reduceMul, Nat.reduceMod, Nat.reduceDiv]
      refine (rcall_ok fs e.n ts hn).mono fun r hr => ?_
      obtain ⟨t, ht, _⟩ := rcall_ok fs e.n ts hn
      rw [ht] at hr
      cases hr
      simp only [rinner_k3, rinner_b, rinner_rs, Try.f90, hs, h22, ht, F.EVT, Am.splice, Am.enterN, Am.freshMem, Am.cA, Am.cB, Am.cK, Am.cL, Am.cS, Am.cT, Am.cE, Am.aresults, Am.aresult, Am.codeKey, Am.frzTop, Am.spliceP, Nat.reduceAdd, Nat.reduceLeDiff, Nat.reduceBEq, Nat.reduceEqDiff, reduceIte, reduceCtorEq, Nat.reduceSub, Int.reduceBEq, Int.reduceSub, Int.reduceAdd, Int.reduceToNat, Int.reduceLT, Int.reduceLE, Int.reduceEq, Int.reduceNeg, Int.reduceBNe, Int.reduceGT, Int.reduceGE, Nat.reduceMul, Nat.reduceMod, Nat.reduceDiv]
    · rw [if_neg h22]
      have h22b : (e.op == 22) = false := beq_no h22
      by_cases ha : arity e.op = ts.length
      · have hr : 0 ≤ e.op ∧ e.op ≤ 21 := by unfold arity at ha; by_cases hq : 0 ≤ e.op ∧ e.op ≤ 21; exact hq; rw [if_neg (by omega), if_neg (by omega), if_neg (by omega), if_neg (by omega)] at ha; omega
        have hop : e.op = 0 ∨ e.op = 1 ∨ e.op = 2 ∨ e.op = 3 ∨ e.op = 4 ∨ e.op = 5 ∨ e.op = 6 ∨ e.op = 7 ∨ e.op = 8 ∨ e.op = 9 ∨ e.op = 10 ∨ e.op = 11 ∨ e.op = 12 ∨ e.op = 13 ∨ e.op = 14 ∨ e.op = 15 ∨ e.op = 16 ∨ e.op = 17 ∨ e.op = 18 ∨ e.op = 19 ∨ e.op = 20 ∨ e.op = 21 := by omega
        rcases hop with hk | hk | hk | hk | hk | hk | hk | hk | hk | hk | hk | hk | hk | hk | hk | hk | hk | hk | hk | hk | hk | hk <;> rw [hk] at ha ⊢
        · exact rin_0 hs hk hts ha
        · exact rin_1 hs hk hts ha
        · exact rin_2 hs hk hts ha
        · exact rin_3 hs hk hts ha
        · exact rin_4 hs hk hts ha
        · exact rin_5 hs hk hts ha
        · exact rin_6 hs hk hts ha
        · exact rin_7 hs hk hts ha
        · exact rin_8 hs hk hts ha
        · exact rin_9 hs hk hts ha
        · exact rin_10 hs hk hts ha
        · exact rin_11 hs hk hts ha
        · exact rin_12 hs hk hts ha
        · exact rin_13 hs hk hts ha
        · exact rin_14 hs hk hts ha
        · exact rin_15 hs hk hts ha
        · exact rin_16 hs hk hts ha
        · exact rin_17 hs hk hts ha
        · exact rin_18 hs hk hts ha
        · exact rin_19 hs hk hts ha
        · exact rin_20 hs hk hts ha
        · exact rin_21 hs hk hts ha
      · rw [tyArgs_arity ha]
        unfold RinGoal
        rw [rinner_e3]; simp only [rinner_l3, rinner_b, rinner_rs, Try.f90, Int.lt_irrefl, hts, F.EVT, Am.splice, Am.enterN, Am.freshMem, Am.cA, Am.cB, Am.cK, Am.cL, Am.cS, Am.cT, Am.cE, Am.aresults, Am.aresult, Am.codeKey, Am.frzTop, Am.spliceP, Nat.reduceAdd, Nat.reduceLeDiff, Nat.reduceBEq, Nat.reduceEqDiff, reduceIte, reduceCtorEq, Nat.reduceSub, Int.reduceBEq, Int.reduceSub, Int.reduceAdd, Int.reduceToNat, Int.reduceLT, Int.reduceLE, Int.reduceEq, Int.reduceNeg, Int.reduceBNe, Int.reduceGT, Int.reduceGE, Nat.reduceMul, Nat.reduceMod, Nat.reduceDiv]
        refine Gives.no (t := 0) ?_
        simp only [rinner_k3, rinner_b, rinner_rs, Try.f90, hs, h22b, rnumber_ok, ints_len, bne_no ha, F.EVT, Am.splice, Am.enterN, Am.freshMem, Am.cA, Am.cB, Am.cK, Am.cL, Am.cS, Am.cT, Am.cE, Am.aresults, Am.aresult, Am.codeKey, Am.frzTop, Am.spliceP, Nat.reduceAdd, Nat.reduceLeDiff, Nat.reduceBEq, Nat.reduceEqDiff, reduceIte, reduceCtorEq, Nat.reduceSub, Int.reduceBEq, Int.reduceSub, Int.reduceAdd, Int.reduceToNat, Int.reduceLT, Int.reduceLE, Int.reduceEq, Int.reduceNeg, Int.reduceBNe, Int.reduceGT, Int.reduceGE, Nat.reduceMul, Nat.reduceMod, Nat.reduceDiv]
  · have hS' : noS e.s = false := by simpa using hS
    have hs : (e.s.toList == (ByteArray.mk #[]).toList) = false := hS'
    by_cases h1 : e.op = 1
    · rw [if_neg (fun q => q.2 h1), if_neg (by omega)]
      by_cases ha : arity e.op = ts.length
      · rw [h1] at ha ⊢
        exact rin_1s hs h1 hts ha
      · rw [tyArgs_arity ha]
        unfold RinGoal
        rw [rinner_e3]; simp only [rinner_l3, rinner_b, rinner_rs, Try.f90, Int.lt_irrefl, hts, F.EVT, Am.splice, Am.enterN, Am.freshMem, Am.cA, Am.cB, Am.cK, Am.cL, Am.cS, Am.cT, Am.cE, Am.aresults, Am.aresult, Am.codeKey, Am.frzTop, Am.spliceP, Nat.reduceAdd, Nat.reduceLeDiff, Nat.reduceBEq, Nat.reduceEqDiff, reduceIte, reduceCtorEq, Nat.reduceSub, Int.reduceBEq, Int.reduceSub, Int.reduceAdd, Int.reduceToNat, Int.reduceLT, Int.reduceLE, Int.reduceEq, Int.reduceNeg, Int.reduceBNe, Int.reduceGT, Int.reduceGE, Nat.reduceMul, Nat.reduceMod, Nat.reduceDiv]
        have ha' : arity 1 ≠ ts.length := by rw [h1] at ha; exact ha
        refine Gives.no (t := 0) ?_
        simp only [rinner_k3, rinner_b, rinner_rs, Try.f90, hs, h1, rnumber_ok, ints_len, bne_no ha', F.EVT, Am.splice, Am.enterN, Am.freshMem, Am.cA, Am.cB, Am.cK, Am.cL, Am.cS, Am.cT, Am.cE, Am.aresults, Am.aresult, Am.codeKey, Am.frzTop, Am.spliceP, Nat.reduceAdd, Nat.reduceLeDiff, Nat.reduceBEq, Nat.reduceEqDiff, reduceIte, reduceCtorEq, Nat.reduceSub, Int.reduceBEq, Int.reduceSub, Int.reduceAdd, Int.reduceToNat, Int.reduceLT, Int.reduceLE, Int.reduceEq, Int.reduceNeg, Int.reduceBNe, Int.reduceGT, Int.reduceGE, Nat.reduceMul, Nat.reduceMod, Nat.reduceDiv]
    · rw [if_pos ⟨hS', h1⟩]
      unfold RinGoal
      rw [rinner_e3]; simp only [rinner_l3, rinner_b, rinner_rs, Try.f90, Int.lt_irrefl, hts, F.EVT, Am.splice, Am.enterN, Am.freshMem, Am.cA, Am.cB, Am.cK, Am.cL, Am.cS, Am.cT, Am.cE, Am.aresults, Am.aresult, Am.codeKey, Am.frzTop, Am.spliceP, Nat.reduceAdd, Nat.reduceLeDiff, Nat.reduceBEq, Nat.reduceEqDiff, reduceIte, reduceCtorEq, Nat.reduceSub, Int.reduceBEq, Int.reduceSub, Int.reduceAdd, Int.reduceToNat, Int.reduceLT, Int.reduceLE, Int.reduceEq, Int.reduceNeg, Int.reduceBNe, Int.reduceGT, Int.reduceGE, Nat.reduceMul, Nat.reduceMod, Nat.reduceDiv]
      refine Gives.no (t := 0) ?_
      simp only [rinner_k3, rinner_b, rinner_rs, Try.f90, hs, bne_no h1, F.EVT, Am.splice, Am.enterN, Am.freshMem, Am.cA, Am.cB, Am.cK, Am.cL, Am.cS, Am.cT, Am.cE, Am.aresults, Am.aresult, Am.codeKey, Am.frzTop, Am.spliceP, Nat.reduceAdd, Nat.reduceLeDiff, Nat.reduceBEq, Nat.reduceEqDiff, reduceIte, reduceCtorEq, Nat.reduceSub, Int.reduceBEq, Int.reduceSub, Int.reduceAdd, Int.reduceToNat, Int.reduceLT, Int.reduceLE, Int.reduceEq, Int.reduceNeg, Int.reduceBNe, Int.reduceGT, Int.reduceGE, Nat.reduceMul, Nat.reduceMod, Nat.reduceDiv]
theorem rinner_loop {fs : List Fn} {cols params : List Int} {e : E} (hl : ∀ a ∈ e.args, Gives (RR 90 [slF fs, slI cols, slI params, a.av] []) (ty fs cols params a)) (hn : e.args.length ≤ 1000000) : ∀ (xs : List E) (i : Nat) (ts : List Int) (st : St), e.args.drop i = xs → i ≤ e.args.length → ts.length = i →
    St.forget (rinner_h.at 3) st = rinSt fs cols params e ts i → Gives (leaveR PP rinner_rs 0 (thenC (blockC 0 (rinner_L 3 st)) (acodeX PP RR [] rinner_L rinner_k3))) (match tyL fs cols params xs with | some us => tyOp fs cols params e.op e.n e.s (ts ++ us) | none => none)
  | [], i, ts, st, h, hle, hts, hst => by
    have he : i = e.args.length := by have := drop_nil' h; omega
    subst he
    rw [rinner_q3, hst]
    simp only [tyL, List.append_nil]
    exact rinner_end hts (by simp only [LIM]; omega)
  | x :: xs, i, ts, st, h, hle, hts, hst => by
    obtain ⟨hlt, hi, hd⟩ := drop_cons h
    have hlt' : (i : Int) < e.args.length := by omega
    rw [rinner_q3, hst]
    obtain ⟨t, ht, hu⟩ := hl x (List.mem_of_getElem? hi)
    simp only [E.av] at ht
    cases hx : ty fs cols params x with
    | none =>
      rw [hx] at ht
      simp only [Option.isSome_none] at ht
      simp only [tyL, hx]
      refine Gives.no (t := 0) ?_
      rw [rinner_e3]; simp only [rinner_l3, rinner_b, rinner_rs, Try.f90, index_E hi, hlt', ht, F.EVT, Am.splice, Am.enterN, Am.freshMem, Am.cA, Am.cB, Am.cK, Am.cL, Am.cS, Am.cT, Am.cE, Am.aresults, Am.aresult, Am.codeKey, Am.frzTop, Am.spliceP, Nat.reduceAdd, Nat.reduceLeDiff, Nat.reduceBEq, Nat.reduceEqDiff, reduceIte, reduceCtorEq, Nat.reduceSub, Int.reduceBEq, Int.reduceSub, Int.reduceAdd, Int.reduceToNat, Int.reduceLT, Int.reduceLE, Int.reduceEq, Int.reduceNeg, Int.reduceBNe, Int.reduceGT, Int.reduceGE, Nat.reduceMul, Nat.reduceMod, Nat.reduceDiv]
    | some u =>
      rw [hx] at ht
      simp only [Option.isSome_some] at ht
      have hut := hu u hx
      subst hut
      have hb : ((ints ts).length + 1) * 8 ≤ 140737488355328 := by rw [ints_len]; omega
      have hap : ints ts ++ [.int .i64 t] = ints (ts ++ [t]) := by simp [ints]
      have hg : (match tyL fs cols params (x :: xs) with | some us => tyOp fs cols params e.op e.n e.s (ts ++ us) | none => none) = (match tyL fs cols params xs with | some us => tyOp fs cols params e.op e.n e.s ((ts ++ [t]) ++ us) | none => none) := by
        simp only [tyL, hx]
        cases tyL fs cols params xs <;> simp
      rw [rinner_e3]; simp only [rinner_l3, rinner_b, rinner_rs, Try.f90, index_E hi, hlt', ht, hb, hap, wrapS hlt (show e.args.length ≤ LIM by simp only [LIM]; omega), F.EVT, Am.splice, Am.enterN, Am.freshMem, Am.cA, Am.cB, Am.cK, Am.cL, Am.cS, Am.cT, Am.cE, Am.aresults, Am.aresult, Am.codeKey, Am.frzTop, Am.spliceP, Nat.reduceAdd, Nat.reduceLeDiff, Nat.reduceBEq, Nat.reduceEqDiff, reduceIte, reduceCtorEq, Nat.reduceSub, Int.reduceBEq, Int.reduceSub, Int.reduceAdd, Int.reduceToNat, Int.reduceLT, Int.reduceLE, Int.reduceEq, Int.reduceNeg, Int.reduceBNe, Int.reduceGT, Int.reduceGE, Nat.reduceMul, Nat.reduceMod, Nat.reduceDiv]
      rw [hg]
      exact rinner_loop hl hn xs (i + 1) (ts ++ [t]) _ hd hlt (by simp [hts]) (by delta rinSt; generalize ints (ts ++ [t]) = E; cases E <;> kernel_rfl)
theorem rinner_ok {fs : List Fn} {cols params : List Int} : ∀ e : E, parts e ≤ 1000000 → Gives (RR 90 [slF fs, slI cols, slI params, e.av] []) (ty fs cols params e) := by
  apply E.ind
  intro e ih hp
  have hp' := hp
  rw [parts_eq] at hp'
  have hn : e.args.length ≤ 1000000 := by have := partsL_len e.args; omega
  rw [ty_eq]
  have hloop := rinner_loop (fun a ha => ih a ha (by have := partsL_mem ha; omega)) hn e.args 0 []
  simp only [List.nil_append] at hloop
  refine Gives.mono (x := leaveR PP rinner_rs ([] : List Mem).length (acodeX PP RR [] rinner_L rinner_b (enterN 193 rinner_h [slF fs, slI cols, slI params, e.av] []))) ?_ (fun r h => rinner_r h)
  simp only [rinner_b, rinner_h, rinner_rs, Try.f90, E.av, F.EVT, Am.splice, Am.enterN, Am.freshMem, Am.cA, Am.cB, Am.cK, Am.cL, Am.cS, Am.cT, Am.cE, Am.aresults, Am.aresult, Am.codeKey, Am.frzTop, Am.spliceP, Nat.reduceAdd, Nat.reduceLeDiff, Nat.reduceBEq, Nat.reduceEqDiff, reduceIte, reduceCtorEq, Nat.reduceSub, Int.reduceBEq, Int.reduceSub, Int.reduceAdd, Int.reduceToNat, Int.reduceLT, Int.reduceLE, Int.reduceEq, Int.reduceNeg, Int.reduceBNe, Int.reduceGT, Int.reduceGE, Nat.reduceMul, Nat.reduceMod, Nat.reduceDiv]
  exact hloop _ rfl (Nat.zero_le _) rfl (by kernel_rfl)
end Go.Proofs.Ytjbmdfdgeioecaa.X
