/- Types of expressions, by the code: the small functions. -/
import Derived.Test.YtjbmdfdgeioecaaN6
namespace Go.Proofs.Ytjbmdfdgeioecaa.X
open Go.Proofs.Ytjbmdfdgeioecaa.Am Go.Proofs.Ytjbmdfdgeioecaa.F
set_option linter.unusedVariables false
set_option linter.unusedSimpArgs false
set_option maxRecDepth 100000
set_option maxHeartbeats 1000000
theorem kind_isTy (n : Int) : RR 60 [I n] [] = some (B (isTy n), []) := kind_ok n
theorem pick_ok (l : List Int) (n : Int) : Gives (RR 102 [.pv (.slc (ints l)), I n] []) (pickTy l n) := by
  unfold pickTy
  by_cases h : n < 0
  · have h' : ¬ (0 ≤ n ∧ n < l.length) := by omega
    rw [if_neg h']
    refine Gives.no (t := 0) ?_
    apply pick_r
    simp only [pick_b, pick_h, pick_rs, Try.f102, h, F.EVT, Am.splice, Am.enterN, Am.freshMem, Am.cA, Am.cB, Am.cK, Am.cL, Am.cS, Am.cT, Am.cE, Am.aresults, Am.aresult, Am.codeKey, Am.frzTop, Am.spliceP, Nat.reduceAdd, Nat.reduceLeDiff, Nat.reduceBEq, Nat.reduceEqDiff, reduceIte, reduceCtorEq, Nat.reduceSub, Int.reduceBEq, Int.reduceSub, Int.reduceAdd, Int.reduceToNat, Int.reduceLT, Int.reduceLE, Int.reduceEq, Int.reduceNeg, Int.reduceBNe, Int.reduceGT, Int.reduceGE, Nat.reduceMul, Nat.reduceMod, Nat.reduceDiv]
  · by_cases h2 : n ≥ l.length
    · have h' : ¬ (0 ≤ n ∧ n < l.length) := by omega
      rw [if_neg h']
      refine Gives.no (t := 0) ?_
      apply pick_r
      simp only [pick_b, pick_h, pick_rs, Try.f102, h, h2, ints_len, F.EVT, Am.splice, Am.enterN, Am.freshMem, Am.cA, Am.cB, Am.cK, Am.cL, Am.cS, Am.cT, Am.cE, Am.aresults, Am.aresult, Am.codeKey, Am.frzTop, Am.spliceP, Nat.reduceAdd, Nat.reduceLeDiff, Nat.reduceBEq, Nat.reduceEqDiff, reduceIte, reduceCtorEq, Nat.reduceSub, Int.reduceBEq, Int.reduceSub, Int.reduceAdd, Int.reduceToNat, Int.reduceLT, Int.reduceLE, Int.reduceEq, Int.reduceNeg, Int.reduceBNe, Int.reduceGT, Int.reduceGE, Nat.reduceMul, Nat.reduceMod, Nat.reduceDiv]
    · have h0 : 0 ≤ n := by omega
      have hlt : n.toNat < l.length := by omega
      rw [if_pos ⟨h0, by omega⟩, List.getElem?_eq_getElem hlt]
      simp only
      cases hk : isTy l[n.toNat]
      · rw [if_neg (by simp)]
        refine Gives.no (t := 0) ?_
        apply pick_r
        simp only [pick_b, pick_h, pick_rs, Try.f102, h, h2, ints_len, index_at h0 (List.getElem?_eq_getElem hlt), kind_isTy, hk, F.EVT, Am.splice, Am.enterN, Am.freshMem, Am.cA, Am.cB, Am.cK, Am.cL, Am.cS, Am.cT, Am.cE, Am.aresults, Am.aresult, Am.codeKey, Am.frzTop, Am.spliceP, Nat.reduceAdd, Nat.reduceLeDiff, Nat.reduceBEq, Nat.reduceEqDiff, reduceIte, reduceCtorEq, Nat.reduceSub, Int.reduceBEq, Int.reduceSub, Int.reduceAdd, Int.reduceToNat, Int.reduceLT, Int.reduceLE, Int.reduceEq, Int.reduceNeg, Int.reduceBNe, Int.reduceGT, Int.reduceGE, Nat.reduceMul, Nat.reduceMod, Nat.reduceDiv]
      · rw [if_pos rfl]
        refine Gives.yes ?_
        apply pick_r
        simp only [pick_b, pick_h, pick_rs, Try.f102, h, h2, ints_len, index_at h0 (List.getElem?_eq_getElem hlt), kind_isTy, hk, F.EVT, Am.splice, Am.enterN, Am.freshMem, Am.cA, Am.cB, Am.cK, Am.cL, Am.cS, Am.cT, Am.cE, Am.aresults, Am.aresult, Am.codeKey, Am.frzTop, Am.spliceP, Nat.reduceAdd, Nat.reduceLeDiff, Nat.reduceBEq, Nat.reduceEqDiff, reduceIte, reduceCtorEq, Nat.reduceSub, Int.reduceBEq, Int.reduceSub, Int.reduceAdd, Int.reduceToNat, Int.reduceLT, Int.reduceLE, Int.reduceEq, Int.reduceNeg, Int.reduceBNe, Int.reduceGT, Int.reduceGE, Nat.reduceMul, Nat.reduceMod, Nat.reduceDiv]
theorem leaf_ok (fs : List Fn) (cols params : List Int) (e : E) : Gives (RR 92 [.agg [slF fs, slI cols, slI params], e.av] []) (leafTy cols params e.op e.n e.s) := by
  have up : ∀ {x : Option (AV × List Mem)} {o : Option Int}, Gives x o → (∀ r, x = some r → RR 92 [.agg [slF fs, slI cols, slI params], e.av] [] = some r) → Gives (RR 92 [.agg [slF fs, slI cols, slI params], e.av] []) o :=
    fun ⟨t, h1, h2⟩ h => ⟨t, h _ h1, h2⟩
  refine up (x := leaveR PP leaf_rs ([] : List Mem).length (acodeX PP RR [] leaf_L leaf_b (enterN 54 leaf_h [.agg [slF fs, slI cols, slI params], e.av] []))) ?_ (fun r h => leaf_r h)
  unfold leafTy
  obtain ⟨t1, ht1, hu1⟩ := pick_ok cols e.n
  obtain ⟨t2, ht2, hu2⟩ := pick_ok params e.n
  by_cases k0 : e.op = 0
  · rw [if_pos k0]
    refine Gives.yes ?_
    simp only [leaf_b, leaf_h, leaf_rs, Try.f92, E.av, k0, F.EVT, Am.splice, Am.enterN, Am.freshMem, Am.cA, Am.cB, Am.cK, Am.cL, Am.cS, Am.cT, Am.cE, Am.aresults, Am.aresult, Am.codeKey, Am.frzTop, Am.spliceP, Nat.reduceAdd, Nat.reduceLeDiff, Nat.reduceBEq, Nat.reduceEqDiff, reduceIte, reduceCtorEq, Nat.reduceSub, Int.reduceBEq, Int.reduceSub, Int.reduceAdd, Int.reduceToNat, Int.reduceLT, Int.reduceLE, Int.reduceEq, Int.reduceNeg, Int.reduceBNe, Int.reduceGT, Int.reduceGE, Nat.reduceMul, Nat.reduceMod, Nat.reduceDiv]
    try rfl
  rw [if_neg k0]
  by_cases k1 : e.op = 1
  · rw [if_pos k1]
    by_cases hn : e.n = 0
    · by_cases hs : (e.s.size : Int) ≤ 200
      · rw [if_pos ⟨hn, hs⟩]
        refine Gives.yes ?_
        simp only [leaf_b, leaf_h, leaf_rs, Try.f92, E.av, k1, hn, hs, F.EVT, Am.splice, Am.enterN, Am.freshMem, Am.cA, Am.cB, Am.cK, Am.cL, Am.cS, Am.cT, Am.cE, Am.aresults, Am.aresult, Am.codeKey, Am.frzTop, Am.spliceP, Nat.reduceAdd, Nat.reduceLeDiff, Nat.reduceBEq, Nat.reduceEqDiff, reduceIte, reduceCtorEq, Nat.reduceSub, Int.reduceBEq, Int.reduceSub, Int.reduceAdd, Int.reduceToNat, Int.reduceLT, Int.reduceLE, Int.reduceEq, Int.reduceNeg, Int.reduceBNe, Int.reduceGT, Int.reduceGE, Nat.reduceMul, Nat.reduceMod, Nat.reduceDiv]
        try rfl
      · rw [if_neg (fun q => hs q.2)]
        refine Gives.no (t := 1) ?_
        simp only [leaf_b, leaf_h, leaf_rs, Try.f92, E.av, k1, hn, hs, F.EVT, Am.splice, Am.enterN, Am.freshMem, Am.cA, Am.cB, Am.cK, Am.cL, Am.cS, Am.cT, Am.cE, Am.aresults, Am.aresult, Am.codeKey, Am.frzTop, Am.spliceP, Nat.reduceAdd, Nat.reduceLeDiff, Nat.reduceBEq, Nat.reduceEqDiff, reduceIte, reduceCtorEq, Nat.reduceSub, Int.reduceBEq, Int.reduceSub, Int.reduceAdd, Int.reduceToNat, Int.reduceLT, Int.reduceLE, Int.reduceEq, Int.reduceNeg, Int.reduceBNe, Int.reduceGT, Int.reduceGE, Nat.reduceMul, Nat.reduceMod, Nat.reduceDiv]
        try rfl
    · rw [if_neg (fun q => hn q.1)]
      refine Gives.no (t := 1) ?_
      simp only [leaf_b, leaf_h, leaf_rs, Try.f92, E.av, k1, beq_no hn, F.EVT, Am.splice, Am.enterN, Am.freshMem, Am.cA, Am.cB, Am.cK, Am.cL, Am.cS, Am.cT, Am.cE, Am.aresults, Am.aresult, Am.codeKey, Am.frzTop, Am.spliceP, Nat.reduceAdd, Nat.reduceLeDiff, Nat.reduceBEq, Nat.reduceEqDiff, reduceIte, reduceCtorEq, Nat.reduceSub, Int.reduceBEq, Int.reduceSub, Int.reduceAdd, Int.reduceToNat, Int.reduceLT, Int.reduceLE, Int.reduceEq, Int.reduceNeg, Int.reduceBNe, Int.reduceGT, Int.reduceGE, Nat.reduceMul, Nat.reduceMod, Nat.reduceDiv]
      try rfl
  rw [if_neg k1]
  by_cases k2 : e.op = 2
  · rw [if_pos k2]
    by_cases hn : e.n = 0
    · rw [if_pos (.inl hn)]
      refine Gives.yes ?_
      simp only [leaf_b, leaf_h, leaf_rs, Try.f92, E.av, k2, hn, F.EVT, Am.splice, Am.enterN, Am.freshMem, Am.cA, Am.cB, Am.cK, Am.cL, Am.cS, Am.cT, Am.cE, Am.aresults, Am.aresult, Am.codeKey, Am.frzTop, Am.spliceP, Nat.reduceAdd, Nat.reduceLeDiff, Nat.reduceBEq, Nat.reduceEqDiff, reduceIte, reduceCtorEq, Nat.reduceSub, Int.reduceBEq, Int.reduceSub, Int.reduceAdd, Int.reduceToNat, Int.reduceLT, Int.reduceLE, Int.reduceEq, Int.reduceNeg, Int.reduceBNe, Int.reduceGT, Int.reduceGE, Nat.reduceMul, Nat.reduceMod, Nat.reduceDiv]
      try rfl
    · by_cases hn1 : e.n = 1
      · rw [if_pos (.inr hn1)]
        refine Gives.yes ?_
        simp only [leaf_b, leaf_h, leaf_rs, Try.f92, E.av, k2, hn1, F.EVT, Am.splice, Am.enterN, Am.freshMem, Am.cA, Am.cB, Am.cK, Am.cL, Am.cS, Am.cT, Am.cE, Am.aresults, Am.aresult, Am.codeKey, Am.frzTop, Am.spliceP, Nat.reduceAdd, Nat.reduceLeDiff, Nat.reduceBEq, Nat.reduceEqDiff, reduceIte, reduceCtorEq, Nat.reduceSub, Int.reduceBEq, Int.reduceSub, Int.reduceAdd, Int.reduceToNat, Int.reduceLT, Int.reduceLE, Int.reduceEq, Int.reduceNeg, Int.reduceBNe, Int.reduceGT, Int.reduceGE, Nat.reduceMul, Nat.reduceMod, Nat.reduceDiv]
        try rfl
      · rw [if_neg (by omega)]
        refine Gives.no (t := 2) ?_
        simp only [leaf_b, leaf_h, leaf_rs, Try.f92, E.av, k2, beq_no hn, beq_no hn1, F.EVT, Am.splice, Am.enterN, Am.freshMem, Am.cA, Am.cB, Am.cK, Am.cL, Am.cS, Am.cT, Am.cE, Am.aresults, Am.aresult, Am.codeKey, Am.frzTop, Am.spliceP, Nat.reduceAdd, Nat.reduceLeDiff, Nat.reduceBEq, Nat.reduceEqDiff, reduceIte, reduceCtorEq, Nat.reduceSub, Int.reduceBEq, Int.reduceSub, Int.reduceAdd, Int.reduceToNat, Int.reduceLT, Int.reduceLE, Int.reduceEq, Int.reduceNeg, Int.reduceBNe, Int.reduceGT, Int.reduceGE, Nat.reduceMul, Nat.reduceMod, Nat.reduceDiv]
        try rfl
  rw [if_neg k2]
  by_cases k3 : e.op = 3
  · rw [if_pos k3]
    refine Gives.same (t := t1) (b := (pickTy cols e.n).isSome) ?_ rfl hu1
    simp only [leaf_b, leaf_h, leaf_rs, Try.f92, E.av, k3, ht1, F.EVT, Am.splice, Am.enterN, Am.freshMem, Am.cA, Am.cB, Am.cK, Am.cL, Am.cS, Am.cT, Am.cE, Am.aresults, Am.aresult, Am.codeKey, Am.frzTop, Am.spliceP, Nat.reduceAdd, Nat.reduceLeDiff, Nat.reduceBEq, Nat.reduceEqDiff, reduceIte, reduceCtorEq, Nat.reduceSub, Int.reduceBEq, Int.reduceSub, Int.reduceAdd, Int.reduceToNat, Int.reduceLT, Int.reduceLE, Int.reduceEq, Int.reduceNeg, Int.reduceBNe, Int.reduceGT, Int.reduceGE, Nat.reduceMul, Nat.reduceMod, Nat.reduceDiv]
    try rfl
  rw [if_neg k3]
  by_cases k4 : e.op = 4
  · rw [if_pos k4]
    refine Gives.same (t := t2) (b := (pickTy params e.n).isSome) ?_ rfl hu2
    simp only [leaf_b, leaf_h, leaf_rs, Try.f92, E.av, k4, ht2, F.EVT, Am.splice, Am.enterN, Am.freshMem, Am.cA, Am.cB, Am.cK, Am.cL, Am.cS, Am.cT, Am.cE, Am.aresults, Am.aresult, Am.codeKey, Am.frzTop, Am.spliceP, Nat.reduceAdd, Nat.reduceLeDiff, Nat.reduceBEq, Nat.reduceEqDiff, reduceIte, reduceCtorEq, Nat.reduceSub, Int.reduceBEq, Int.reduceSub, Int.reduceAdd, Int.reduceToNat, Int.reduceLT, Int.reduceLE, Int.reduceEq, Int.reduceNeg, Int.reduceBNe, Int.reduceGT, Int.reduceGE, Nat.reduceMul, Nat.reduceMod, Nat.reduceDiv]
    try rfl
  rw [if_neg k4]
  by_cases k5 : e.op = 5
  · rw [if_pos k5]
    by_cases hn : e.n = 0
    · rw [if_pos hn]
      refine Gives.yes ?_
      simp only [leaf_b, leaf_h, leaf_rs, Try.f92, E.av, k5, hn, F.EVT, Am.splice, Am.enterN, Am.freshMem, Am.cA, Am.cB, Am.cK, Am.cL, Am.cS, Am.cT, Am.cE, Am.aresults, Am.aresult, Am.codeKey, Am.frzTop, Am.spliceP, Nat.reduceAdd, Nat.reduceLeDiff, Nat.reduceBEq, Nat.reduceEqDiff, reduceIte, reduceCtorEq, Nat.reduceSub, Int.reduceBEq, Int.reduceSub, Int.reduceAdd, Int.reduceToNat, Int.reduceLT, Int.reduceLE, Int.reduceEq, Int.reduceNeg, Int.reduceBNe, Int.reduceGT, Int.reduceGE, Nat.reduceMul, Nat.reduceMod, Nat.reduceDiv]
      try rfl
    · rw [if_neg hn]
      refine Gives.no (t := 0) ?_
      simp only [leaf_b, leaf_h, leaf_rs, Try.f92, E.av, k5, beq_no hn, F.EVT, Am.splice, Am.enterN, Am.freshMem, Am.cA, Am.cB, Am.cK, Am.cL, Am.cS, Am.cT, Am.cE, Am.aresults, Am.aresult, Am.codeKey, Am.frzTop, Am.spliceP, Nat.reduceAdd, Nat.reduceLeDiff, Nat.reduceBEq, Nat.reduceEqDiff, reduceIte, reduceCtorEq, Nat.reduceSub, Int.reduceBEq, Int.reduceSub, Int.reduceAdd, Int.reduceToNat, Int.reduceLT, Int.reduceLE, Int.reduceEq, Int.reduceNeg, Int.reduceBNe, Int.reduceGT, Int.reduceGE, Nat.reduceMul, Nat.reduceMod, Nat.reduceDiv]
      try rfl
  rw [if_neg k5]
  refine Gives.no (t := 0) ?_
  simp only [leaf_b, leaf_h, leaf_rs, Try.f92, E.av, beq_no k0, beq_no k1, beq_no k2, beq_no k3, beq_no k4, beq_no k5, F.EVT, Am.splice, Am.enterN, Am.freshMem, Am.cA, Am.cB, Am.cK, Am.cL, Am.cS, Am.cT, Am.cE, Am.aresults, Am.aresult, Am.codeKey, Am.frzTop, Am.spliceP, Nat.reduceAdd, Nat.reduceLeDiff, Nat.reduceBEq, Nat.reduceEqDiff, reduceIte, reduceCtorEq, Nat.reduceSub, Int.reduceBEq, Int.reduceSub, Int.reduceAdd, Int.reduceToNat, Int.reduceLT, Int.reduceLE, Int.reduceEq, Int.reduceNeg, Int.reduceBNe, Int.reduceGT, Int.reduceGE, Nat.reduceMul, Nat.reduceMod, Nat.reduceDiv]
  try rfl
abbrev m104 (t : Int) : Mem := ⟨[(3, [.pv (.int .i64 t)])], []⟩
abbrev f104 : AV := .func 104 [] [.ptr (some 1) 3 0]
theorem op11_ok (x t : Int) (m3 m2 m0 : Mem) : RR 104 [I x, .ptr (some 1) 3 0] [m3, m2, m104 t, m0] = some (B (x != t), [m3, m2, m104 t, m0]) := by
  apply operation11_r
  simp only [operation11_b, operation11_h, operation11_rs, Try.f104, F.EVT, Am.splice, Am.enterN, Am.freshMem, Am.cA, Am.cB, Am.cK, Am.cL, Am.cS, Am.cT, Am.cE, Am.aresults, Am.aresult, Am.codeKey, Am.frzTop, Am.spliceP, Nat.reduceAdd, Nat.reduceLeDiff, Nat.reduceBEq, Nat.reduceEqDiff, reduceIte, reduceCtorEq, Nat.reduceSub, Int.reduceBEq, Int.reduceSub, Int.reduceAdd, Int.reduceToNat, Int.reduceLT, Int.reduceLE, Int.reduceEq, Int.reduceNeg, Int.reduceBNe, Int.reduceGT, Int.reduceGE, Nat.reduceMul, Nat.reduceMod, Nat.reduceDiv]
  try rfl
theorem indexFunc_loop {l : List Int} {t : Int} {m2 m0 : Mem} (hn : l.length ≤ LIM) : ∀ (xs : List Int) (i : Nat) (st : St), l.drop i = xs → i ≤ l.length →
    St.forget (indexFunc_h.at 2) st = indexFunc_t2 (slI l) f104 (I l.length) (I i) [⟨[], []⟩, m2, m104 t, m0] →
    ∃ r : Int, decide (r ≥ 0) = xs.any (· != t) ∧ leaveR PP indexFunc_rs 3 (thenC (blockC 0 (indexFunc_L 2 st)) (acodeX PP RR [] indexFunc_L indexFunc_k2)) = some (I r, [m2, m104 t, m0])
  | [], i, st, h, hle, hst => by
    have he : i = l.length := by have := drop_nil' h; omega
    subst he
    rw [indexFunc_q2, hst]
    refine ⟨-1, rfl, ?_⟩
    rw [indexFunc_e2]; simp only [indexFunc_k2, indexFunc_l2, indexFunc_b, indexFunc_rs, Try.f91, Int.lt_irrefl, ints_len, F.EVT, Am.splice, Am.enterN, Am.freshMem, Am.cA, Am.cB, Am.cK, Am.cL, Am.cS, Am.cT, Am.cE, Am.aresults, Am.aresult, Am.codeKey, Am.frzTop, Am.spliceP, Nat.reduceAdd, Nat.reduceLeDiff, Nat.reduceBEq, Nat.reduceEqDiff, reduceIte, reduceCtorEq, Nat.reduceSub, Int.reduceBEq, Int.reduceSub, Int.reduceAdd, Int.reduceToNat, Int.reduceLT, Int.reduceLE, Int.reduceEq, Int.reduceNeg, Int.reduceBNe, Int.reduceGT, Int.reduceGE, Nat.reduceMul, Nat.reduceMod, Nat.reduceDiv]
    try rfl
  | x :: xs, i, st, h, hle, hst => by
    obtain ⟨hlt, hi, hd⟩ := drop_cons h
    have hlt' : (i : Int) < l.length := by omega
    rw [indexFunc_q2, hst]
    have h11 := fun m3 => op11_ok x t m3 m2 m0
    cases hx : x != t
    · rw [hx] at h11
      have hnext : ∃ st', indexFunc_X2 (indexFunc_t2 (slI l) f104 (I l.length) (I i) [⟨[], []⟩, m2, m104 t, m0]) = indexFunc_L 2 st' ∧ St.forget (indexFunc_h.at 2) st' = indexFunc_t2 (slI l) f104 (I l.length) (I (i + 1 : Nat)) [⟨[], []⟩, m2, m104 t, m0] := by
        rw [indexFunc_e2]; simp only [indexFunc_l2, indexFunc_b, indexFunc_rs, Try.f91, index_I hi, hlt', ints_len, h11, wrapS hlt hn, F.EVT, Am.splice, Am.enterN, Am.freshMem, Am.cA, Am.cB, Am.cK, Am.cL, Am.cS, Am.cT, Am.cE, Am.aresults, Am.aresult, Am.codeKey, Am.frzTop, Am.spliceP, Nat.reduceAdd, Nat.reduceLeDiff, Nat.reduceBEq, Nat.reduceEqDiff, reduceIte, reduceCtorEq, Nat.reduceSub, Int.reduceBEq, Int.reduceSub, Int.reduceAdd, Int.reduceToNat, Int.reduceLT, Int.reduceLE, Int.reduceEq, Int.reduceNeg, Int.reduceBNe, Int.reduceGT, Int.reduceGE, Nat.reduceMul, Nat.reduceMod, Nat.reduceDiv]
        exact ⟨_, rfl, by kernel_rfl⟩
      obtain ⟨st', h1, h2⟩ := hnext
      rw [h1, List.any_cons, hx, Bool.false_or]
      exact indexFunc_loop hn xs (i + 1) st' hd hlt h2
    · rw [hx] at h11
      refine ⟨i, by simp [hx], ?_⟩
      rw [indexFunc_e2]; simp only [indexFunc_l2, indexFunc_b, indexFunc_rs, Try.f91, index_I hi, hlt', ints_len, h11, F.EVT, Am.splice, Am.enterN, Am.freshMem, Am.cA, Am.cB, Am.cK, Am.cL, Am.cS, Am.cT, Am.cE, Am.aresults, Am.aresult, Am.codeKey, Am.frzTop, Am.spliceP, Nat.reduceAdd, Nat.reduceLeDiff, Nat.reduceBEq, Nat.reduceEqDiff, reduceIte, reduceCtorEq, Nat.reduceSub, Int.reduceBEq, Int.reduceSub, Int.reduceAdd, Int.reduceToNat, Int.reduceLT, Int.reduceLE, Int.reduceEq, Int.reduceNeg, Int.reduceBNe, Int.reduceGT, Int.reduceGE, Nat.reduceMul, Nat.reduceMod, Nat.reduceDiv]
      try rfl
theorem contains_ok {l : List Int} {t : Int} {m1 m0 : Mem} (hn : l.length ≤ LIM) : RR 61 [slI l, f104] [m104 t, m0] = some (B (l.any (· != t)), [m104 t, m0]) := by
  have hloop : ∀ m2, ∃ r : Int, decide (r ≥ 0) = l.any (· != t) ∧ RR 91 [slI l, f104] [m2, m104 t, m0] = some (I r, [m2, m104 t, m0]) := by
    intro m2
    have hl := indexFunc_loop (l := l) (t := t) (m2 := m2) (m0 := m0) hn l 0
    have hq : ∃ r : Int, decide (r ≥ 0) = l.any (· != t) ∧ leaveR PP indexFunc_rs ([m2, m104 t, m0] : List Mem).length (acodeX PP RR [] indexFunc_L indexFunc_b (enterN 19 indexFunc_h [slI l, f104] [m2, m104 t, m0])) = some (I r, [m2, m104 t, m0]) := by
      simp only [indexFunc_b, indexFunc_h, indexFunc_rs, Try.f91, ints_len, F.EVT, Am.splice, Am.enterN, Am.freshMem, Am.cA, Am.cB, Am.cK, Am.cL, Am.cS, Am.cT, Am.cE, Am.aresults, Am.aresult, Am.codeKey, Am.frzTop, Am.spliceP, Nat.reduceAdd, Nat.reduceLeDiff, Nat.reduceBEq, Nat.reduceEqDiff, reduceIte, reduceCtorEq, Nat.reduceSub, Int.reduceBEq, Int.reduceSub, Int.reduceAdd, Int.reduceToNat, Int.reduceLT, Int.reduceLE, Int.reduceEq, Int.reduceNeg, Int.reduceBNe, Int.reduceGT, Int.reduceGE, Nat.reduceMul, Nat.reduceMod, Nat.reduceDiv]
      exact hl _ rfl (Nat.zero_le _) (by kernel_rfl)
    obtain ⟨r, h1, h2⟩ := hq
    exact ⟨r, h1, indexFunc_r h2⟩
  obtain ⟨r, h1, h2⟩ := hloop ⟨[], []⟩
  apply contains_r
  rw [← h1]
  simp only [contains_b, contains_h, contains_rs, Try.f61, h2, F.EVT, Am.splice, Am.enterN, Am.freshMem, Am.cA, Am.cB, Am.cK, Am.cL, Am.cS, Am.cT, Am.cE, Am.aresults, Am.aresult, Am.codeKey, Am.frzTop, Am.spliceP, Nat.reduceAdd, Nat.reduceLeDiff, Nat.reduceBEq, Nat.reduceEqDiff, reduceIte, reduceCtorEq, Nat.reduceSub, Int.reduceBEq, Int.reduceSub, Int.reduceAdd, Int.reduceToNat, Int.reduceLT, Int.reduceLE, Int.reduceEq, Int.reduceNeg, Int.reduceBNe, Int.reduceGT, Int.reduceGE, Nat.reduceMul, Nat.reduceMod, Nat.reduceDiv]
  try rfl
end Go.Proofs.Ytjbmdfdgeioecaa.X
