/- Types of expressions, by the code: operations, equal lists. -/
import Derived.Test.YtjbmdfdgeioecaaN14
namespace Go.Proofs.Ytjbmdfdgeioecaa.X
open Go.Proofs.Ytjbmdfdgeioecaa.Am Go.Proofs.Ytjbmdfdgeioecaa.F
set_option linter.unusedVariables false
set_option linter.unusedSimpArgs false
set_option maxRecDepth 100000
set_option maxHeartbeats 1000000
theorem operation_ok {e : E} {l : List Int} (hn : l.length ≤ LIM) (hne : l ≠ []) : Gives (RR 94 [e.av, slI l] []) (opTy e.op e.n l) := by
  have go : ∀ {o}, OpGoal e l o → Gives (RR 94 [e.av, slI l] []) o := fun h => Gives.mono h (fun r h => operation_r h)
  apply go
  by_cases h0 : e.n = 0
  · rw [h0]
    have hfar : ((0 ≤ e.op ∧ e.op ≤ 5) ∨ e.op < 0 ∨ 21 < e.op) → OpGoal e l (opTy e.op 0 l) := by
      intro h
      have : opTy e.op 0 l = none := by
        unfold opTy
        rw [if_neg (by simp), if_neg (by omega), if_neg (by omega), if_neg (by omega), if_neg (by omega), if_neg (by omega), if_neg (by omega), if_neg (by omega), if_neg (by omega)]
      rw [this]
      exact op_far h0 h
    obtain ⟨a, l', rfl⟩ := List.exists_cons_of_ne_nil hne
    by_cases hr : (0 ≤ e.op ∧ e.op ≤ 5) ∨ e.op < 0 ∨ 21 < e.op
    · exact hfar hr
    · have hop : e.op = 6 ∨ e.op = 7 ∨ e.op = 8 ∨ e.op = 9 ∨ e.op = 10 ∨ e.op = 11 ∨ e.op = 12 ∨ e.op = 13 ∨ e.op = 14 ∨ e.op = 15 ∨ e.op = 16 ∨ e.op = 17 ∨ e.op = 18 ∨ e.op = 19 ∨ e.op = 20 ∨ e.op = 21 := by omega
      clear hfar hr
      rcases hop with hk | hk | hk | hk | hk | hk | hk | hk | hk | hk | hk | hk | hk | hk | hk | hk <;> rw [hk]
      · exact op_6 hn h0 hk
      · exact op_7 hn h0 hk
      · exact op_8 hn h0 hk
      · exact op_9 hn h0 hk
      · exact op_10 hn h0 hk
      · exact op_11 hn h0 hk
      · exact op_12 hn h0 hk
      · exact op_13 hn h0 hk
      · exact op_14 hn h0 hk
      · exact op_15 hn h0 hk
      · exact op_16 hn h0 hk
      · exact op_17 hn h0 hk
      · exact op_18 hn h0 hk
      · exact op_19 hn h0 hk
      · exact op_20 hn h0 hk
      · exact op_21 hn h0 hk hne
  · have : opTy e.op e.n l = none := by unfold opTy; rw [if_pos h0]
    rw [this]
    exact opn h0
theorem allI1 {a t : Int} : allI [a] t 1 = decide (a = t) := by
  simp only [allI, List.length_cons, List.length_nil, List.any_cons, List.any_nil, Bool.or_false]
  by_cases h : a = t <;> simp [h]
theorem allI2 {a b t : Int} : allI [a, b] t 2 = decide (a = t ∧ b = t) := by
  simp only [allI, List.length_cons, List.length_nil, List.any_cons, List.any_nil, Bool.or_false]
  by_cases h : a = t <;> by_cases h' : b = t <;> simp [h, h']
theorem allI_len {l : List Int} {t n : Int} (h : (l.length : Int) ≠ n) : allI l t n = false := by unfold allI; rw [beq_no h, Bool.false_and]
theorem opTy_eq {cols params : List Int} {op n : Int} {s : ByteArray} {l : List Int} (hne : l ≠ []) : opTy op n l = tyArgs cols params op n s l := by
  unfold opTy tyArgs
  match l, hne with
  | [a], _ =>
    simp only [allI1, unTy, allI_len (l := [a]) (n := 2) (by simp), ifTy, List.getD_cons_zero]
    by_cases h0 : n = 0
    · rw [if_neg (by simp [h0]), if_pos h0]
      by_cases h6 : op = 6
      · simp [h6]
      · rw [if_neg h6, if_neg h6]
        by_cases h7 : op = 7
        · simp [h7]
        · rw [if_neg h7, if_neg h7]
          by_cases h20 : op = 20
          · simp [h20]
          · rw [if_neg h20, if_neg h20]
            simp
    · rw [if_pos h0, if_neg h0]
  | [a, b], _ =>
    simp only [allI2, binTy, allI_len (l := [a, b]) (n := 1) (by simp), ifTy, List.getD_cons_zero]
    by_cases h0 : n = 0
    · rw [if_neg (by simp [h0]), if_pos h0]
      by_cases h6 : op = 6
      · simp [h6]
      rw [if_neg h6]
      by_cases h7 : op = 7
      · simp [h7]
      rw [if_neg h7]
      by_cases h20 : op = 20
      · simp [h20]
      rw [if_neg h20]
      have hab : (b = a) = (a = b) := propext eq_comm
      simp only [decide_eq_true_eq, true_and, hab, ite_self]
    · rw [if_pos h0, if_neg h0]
  | [a, b, c], _ =>
    simp only [allI_len (l := [a, b, c]) (n := 1) (by simp), allI_len (l := [a, b, c]) (n := 2) (by simp), ifTy, List.getD_cons_zero]
    by_cases h0 : n = 0
    · rw [if_neg (by simp [h0])]
      by_cases h21 : op = 21
      · simp [h21, h0]
      · simp [h21]
    · rw [if_pos h0, if_neg (by simp [h0])]
  | a :: b :: c :: d :: l, _ =>
    simp only [allI_len (l := a :: b :: c :: d :: l) (n := 1) (by simp; omega), allI_len (l := a :: b :: c :: d :: l) (n := 2) (by simp; omega), ifTy]
    simp
theorem sEqual_loop {l k : List Int} (hlen : l.length = k.length) (hn : l.length ≤ LIM) : ∀ (xs : List Int) (i : Nat) (st : St), l.drop i = xs → i ≤ l.length → k.take i = l.take i →
    St.forget (sEqual_h.at 4) st = sEqual_t4 (slI l) (slI k) (I l.length) (I i) [⟨[], []⟩] → leaveR PP sEqual_rs 0 (thenC (blockC 0 (sEqual_L 4 st)) (acodeX PP RR [] sEqual_L sEqual_k4)) = some (B (decide (l = k)), [])
  | [], i, st, h, hle, heq, hst => by
    have he : i = l.length := by have := drop_nil' h; omega
    subst he
    have hfl : l = k := by rw [List.take_length, hlen, List.take_length] at heq; exact heq.symm
    rw [sEqual_q4, hst, decide_eq_true hfl]
    rw [sEqual_e4]; simp only [sEqual_k4, sEqual_l4, sEqual_b, sEqual_rs, Try.f93, Int.lt_irrefl, F.EVT, Am.splice, Am.enterN, Am.freshMem, Am.cA, Am.cB, Am.cK, Am.cL, Am.cS, Am.cT, Am.cE, Am.aresults, Am.aresult, Am.codeKey, Am.frzTop, Am.spliceP, Nat.reduceAdd, Nat.reduceLeDiff, Nat.reduceBEq, Nat.reduceEqDiff, reduceIte, reduceCtorEq, Nat.reduceSub, Int.reduceBEq, Int.reduceSub, Int.reduceAdd, Int.reduceToNat, Int.reduceLT, Int.reduceLE, Int.reduceEq, Int.reduceNeg, Int.reduceBNe, Int.reduceGT, Int.reduceGE, Nat.reduceMul, Nat.reduceMod, Nat.reduceDiv]
    try rfl
  | x :: xs, i, st, h, hle, heq, hst => by
    obtain ⟨hlt, hi, hd⟩ := drop_cons h
    have hlt' : (i : Int) < l.length := by omega
    have hp : k[i]? = some (k[i]'(by omega)) := List.getElem?_eq_getElem (by omega)
    generalize k[i]'(by omega) = y at hp
    rw [sEqual_q4, hst]
    by_cases hxy : x = y
    · subst hxy
      rw [sEqual_e4]; simp only [sEqual_l4, sEqual_b, sEqual_rs, Try.f93, index_I hi, index_I hp, hlt', bne_self_eq_false, wrapS hlt hn, F.EVT, Am.splice, Am.enterN, Am.freshMem, Am.cA, Am.cB, Am.cK, Am.cL, Am.cS, Am.cT, Am.cE, Am.aresults, Am.aresult, Am.codeKey, Am.frzTop, Am.spliceP, Nat.reduceAdd, Nat.reduceLeDiff, Nat.reduceBEq, Nat.reduceEqDiff, reduceIte, reduceCtorEq, Nat.reduceSub, Int.reduceBEq, Int.reduceSub, Int.reduceAdd, Int.reduceToNat, Int.reduceLT, Int.reduceLE, Int.reduceEq, Int.reduceNeg, Int.reduceBNe, Int.reduceGT, Int.reduceGE, Nat.reduceMul, Nat.reduceMod, Nat.reduceDiv]
      refine sEqual_loop hlen hn xs (i + 1) _ hd hlt ?_ (by kernel_rfl)
      rw [List.take_add_one, List.take_add_one, heq, hi, hp]
    · have hne : l ≠ k := fun e => by rw [← e, hi] at hp; cases hp; exact hxy rfl
      rw [decide_eq_false hne]
      rw [sEqual_e4]; simp only [sEqual_l4, sEqual_b, sEqual_rs, Try.f93, index_I hi, index_I hp, hlt', bne_no hxy, F.EVT, Am.splice, Am.enterN, Am.freshMem, Am.cA, Am.cB, Am.cK, Am.cL, Am.cS, Am.cT, Am.cE, Am.aresults, Am.aresult, Am.codeKey, Am.frzTop, Am.spliceP, Nat.reduceAdd, Nat.reduceLeDiff, Nat.reduceBEq, Nat.reduceEqDiff, reduceIte, reduceCtorEq, Nat.reduceSub, Int.reduceBEq, Int.reduceSub, Int.reduceAdd, Int.reduceToNat, Int.reduceLT, Int.reduceLE, Int.reduceEq, Int.reduceNeg, Int.reduceBNe, Int.reduceGT, Int.reduceGE, Nat.reduceMul, Nat.reduceMod, Nat.reduceDiv]
      try rfl
theorem sEqual_ok {l k : List Int} (hn : l.length ≤ LIM) : RR 93 [slI l, slI k] [] = some (B (decide (l = k)), []) := by
  apply sEqual_r
  by_cases hl : l.length = k.length
  · have hl' : ((l.length : Int) != (k.length : Int)) = false := by simp [hl]
    have hgo := sEqual_loop hl hn l 0
    simp only [sEqual_b, sEqual_h, sEqual_rs, Try.f93, ints_len, hl', F.EVT, Am.splice, Am.enterN, Am.freshMem, Am.cA, Am.cB, Am.cK, Am.cL, Am.cS, Am.cT, Am.cE, Am.aresults, Am.aresult, Am.codeKey, Am.frzTop, Am.spliceP, Nat.reduceAdd, Nat.reduceLeDiff, Nat.reduceBEq, Nat.reduceEqDiff, reduceIte, reduceCtorEq, Nat.reduceSub, Int.reduceBEq, Int.reduceSub, Int.reduceAdd, Int.reduceToNat, Int.reduceLT, Int.reduceLE, Int.reduceEq, Int.reduceNeg, Int.reduceBNe, Int.reduceGT, Int.reduceGE, Nat.reduceMul, Nat.reduceMod, Nat.reduceDiv]
    exact hgo _ rfl (Nat.zero_le _) rfl (by kernel_rfl)
  · have hne : l ≠ k := fun e => hl (by rw [e])
    have hl' : ((l.length : Int) != (k.length : Int)) = true := bne_no (by omega)
    rw [decide_eq_false hne]
    simp only [sEqual_b, sEqual_h, sEqual_rs, Try.f93, ints_len, hl', F.EVT, Am.splice, Am.enterN, Am.freshMem, Am.cA, Am.cB, Am.cK, Am.cL, Am.cS, Am.cT, Am.cE, Am.aresults, Am.aresult, Am.codeKey, Am.frzTop, Am.spliceP, Nat.reduceAdd, Nat.reduceLeDiff, Nat.reduceBEq, Nat.reduceEqDiff, reduceIte, reduceCtorEq, Nat.reduceSub, Int.reduceBEq, Int.reduceSub, Int.reduceAdd, Int.reduceToNat, Int.reduceLT, Int.reduceLE, Int.reduceEq, Int.reduceNeg, Int.reduceBNe, Int.reduceGT, Int.reduceGE, Nat.reduceMul, Nat.reduceMod, Nat.reduceDiv]
    try rfl
end Go.Proofs.Ytjbmdfdgeioecaa.X
