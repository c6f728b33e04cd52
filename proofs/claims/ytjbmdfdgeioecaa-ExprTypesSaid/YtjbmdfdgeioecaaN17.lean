/- Types of expressions, by the code: functions that are right; Type. -/
import Derived.Test.YtjbmdfdgeioecaaN9
import Derived.Test.YtjbmdfdgeioecaaN16
namespace Go.Proofs.Ytjbmdfdgeioecaa.X
open Go.Proofs.Ytjbmdfdgeioecaa.Am Go.Proofs.Ytjbmdfdgeioecaa.F
set_option linter.unusedVariables false
set_option linter.unusedSimpArgs false
set_option maxRecDepth 100000
set_option maxHeartbeats 1000000
theorem typed_ok {fs : List Fn} {cols params : List Int} (hf : ∀ f ∈ fs, f.params.length ≤ LIM) (e : E) (hp : parts e ≤ 1000000) : RR 41 [scv fs cols params, e.av] [] = some (tyAV (tyD fs cols params e), []) := by
  have h1 := levels_ok e hp
  obtain ⟨t, h2, h3⟩ := xof_ok (fs := fs) (cols := cols) (params := params) hf e hp
  simp only [E.av] at h1 h2
  unfold tyD
  apply typed_r
  by_cases hl : levels e > 12
  · have hl' : (levels e : Int) > 12 := by omega
    rw [if_pos hl]
    simp only [typed_b, typed_h, typed_rs, Try.f41, E.av, h1, hl', F.EVT, Am.splice, Am.enterN, Am.freshMem, Am.cA, Am.cB, Am.cK, Am.cL, Am.cS, Am.cT, Am.cE, Am.aresults, Am.aresult, Am.codeKey, Am.frzTop, Am.spliceP, Nat.reduceAdd, Nat.reduceLeDiff, Nat.reduceBEq, Nat.reduceEqDiff, reduceIte, reduceCtorEq, Nat.reduceSub, Int.reduceBEq, Int.reduceSub, Int.reduceAdd, Int.reduceToNat, Int.reduceLT, Int.reduceLE, Int.reduceEq, Int.reduceNeg, Int.reduceBNe, Int.reduceGT, Int.reduceGE, Nat.reduceMul, Nat.reduceMod, Nat.reduceDiv]
    try rfl
  · have hl' : ¬ (levels e : Int) > 12 := by omega
    rw [if_neg hl]
    cases ho : ty fs cols params e with
    | none =>
      rw [ho] at h2
      simp only [Option.isSome_none] at h2
      simp only [typed_b, typed_h, typed_rs, Try.f41, E.av, h1, hl', h2, F.EVT, Am.splice, Am.enterN, Am.freshMem, Am.cA, Am.cB, Am.cK, Am.cL, Am.cS, Am.cT, Am.cE, Am.aresults, Am.aresult, Am.codeKey, Am.frzTop, Am.spliceP, Nat.reduceAdd, Nat.reduceLeDiff, Nat.reduceBEq, Nat.reduceEqDiff, reduceIte, reduceCtorEq, Nat.reduceSub, Int.reduceBEq, Int.reduceSub, Int.reduceAdd, Int.reduceToNat, Int.reduceLT, Int.reduceLE, Int.reduceEq, Int.reduceNeg, Int.reduceBNe, Int.reduceGT, Int.reduceGE, Nat.reduceMul, Nat.reduceMod, Nat.reduceDiv]
      try rfl
    | some u =>
      rw [ho] at h2
      simp only [Option.isSome_some] at h2
      have := h3 u ho
      subst this
      simp only [typed_b, typed_h, typed_rs, Try.f41, E.av, h1, hl', h2, F.EVT, Am.splice, Am.enterN, Am.freshMem, Am.cA, Am.cB, Am.cK, Am.cL, Am.cS, Am.cT, Am.cE, Am.aresults, Am.aresult, Am.codeKey, Am.frzTop, Am.spliceP, Nat.reduceAdd, Nat.reduceLeDiff, Nat.reduceBEq, Nat.reduceEqDiff, reduceIte, reduceCtorEq, Nat.reduceSub, Int.reduceBEq, Int.reduceSub, Int.reduceAdd, Int.reduceToNat, Int.reduceLT, Int.reduceLE, Int.reduceEq, Int.reduceNeg, Int.reduceBNe, Int.reduceGT, Int.reduceGE, Nat.reduceMul, Nat.reduceMod, Nat.reduceDiv]
      try rfl
theorem cb59 : callable PP 59 = true := by kernel_rfl
theorem right1_ok (x : Int) : RR 59 [I x] [] = some (B (!isTy x), []) := by
  have h := kind_isTy x
  apply right1_r
  simp only [right1_b, right1_h, right1_rs, Try.f59, h, F.EVT, Am.splice, Am.enterN, Am.freshMem, Am.cA, Am.cB, Am.cK, Am.cL, Am.cS, Am.cT, Am.cE, Am.aresults, Am.aresult, Am.codeKey, Am.frzTop, Am.spliceP, Nat.reduceAdd, Nat.reduceLeDiff, Nat.reduceBEq, Nat.reduceEqDiff, reduceIte, reduceCtorEq, Nat.reduceSub, Int.reduceBEq, Int.reduceSub, Int.reduceAdd, Int.reduceToNat, Int.reduceLT, Int.reduceLE, Int.reduceEq, Int.reduceNeg, Int.reduceBNe, Int.reduceGT, Int.reduceGE, Nat.reduceMul, Nat.reduceMod, Nat.reduceDiv]
  try rfl
theorem indexR_loop {l : List Int} (hn : l.length ≤ LIM) : ∀ (xs : List Int) (i : Nat) (st : St), l.drop i = xs → i ≤ l.length →
    St.forget (indexFunc_h.at 2) st = indexFunc_t2 (slI l) (.func 59 [] []) (I l.length) (I i) [⟨[], []⟩] →
    ∃ r : Int, decide (r ≥ 0) = !xs.all isTy ∧ leaveR PP indexFunc_rs 0 (thenC (blockC 0 (indexFunc_L 2 st)) (acodeX PP RR [] indexFunc_L indexFunc_k2)) = some (I r, [])
  | [], i, st, h, hle, hst => by
    have he : i = l.length := by have := drop_nil' h; omega
    subst he
    rw [indexFunc_q2, hst]
    refine ⟨-1, rfl, ?_⟩
    rw [indexFunc_e2]; simp only [indexFunc_k2, indexFunc_l2, indexFunc_b, indexFunc_rs, Try.f91, Int.lt_irrefl, ints_len, F.EVT, Am.splice, Am.enterN, Am.freshMem, Am.cA, Am.cB, Am.cK, Am.cL, Am.cS, Am.cT, Am.cE, Am.aresults, Am.aresult, Am.codeKey, Am.frzTop, Am.spliceP, Nat.reduceAdd, Nat.reduceLeDiff, Nat.reduceBEq, Nat.reduceEqDiff, reduceIte, reduceCtorEq, Nat.reduceSub, Int.reduceBEq, Int.reduceSub, Int.reduceAdd, Int.reduceToNat, Int.reduceLT, Int.reduceLE, Int.reduceEq, Int.reduceNeg, Int.reduceBNe, Int.reduceGT, Int.reduceGE, Nat.reduceMul, Nat.reduceMod, Nat.reduceDiv]
    try rfl
  | x :: xs, i, st, h, hle, hst => by
    obtain ⟨hlt, hi, hd⟩ := drop_cons h
    have hlt' : (i : Int) < l.length := by omega
    rw [indexFunc_q2, hst]
    have h11 := right1_ok x
    cases hx : isTy x
    · rw [hx] at h11
      refine ⟨i, by simp [hx], ?_⟩
      rw [indexFunc_e2]; simp only [indexFunc_l2, indexFunc_b, indexFunc_rs, Try.f91, index_I hi, hlt', ints_len, h11, cb59, F.EVT, Am.splice, Am.enterN, Am.freshMem, Am.cA, Am.cB, Am.cK, Am.cL, Am.cS, Am.cT, Am.cE, Am.aresults, Am.aresult, Am.codeKey, Am.frzTop, Am.spliceP, Nat.reduceAdd, Nat.reduceLeDiff, Nat.reduceBEq, Nat.reduceEqDiff, reduceIte, reduceCtorEq, Nat.reduceSub, Int.reduceBEq, Int.reduceSub, Int.reduceAdd, Int.reduceToNat, Int.reduceLT, Int.reduceLE, Int.reduceEq, Int.reduceNeg, Int.reduceBNe, Int.reduceGT, Int.reduceGE, Nat.reduceMul, Nat.reduceMod, Nat.reduceDiv]
      try rfl
    · rw [hx] at h11
      have hnext : ∃ st', indexFunc_X2 (indexFunc_t2 (slI l) (.func 59 [] []) (I l.length) (I i) [⟨[], []⟩]) = indexFunc_L 2 st' ∧ St.forget (indexFunc_h.at 2) st' = indexFunc_t2 (slI l) (.func 59 [] []) (I l.length) (I (i + 1 : Nat)) [⟨[], []⟩] := by
        rw [indexFunc_e2]; simp only [indexFunc_l2, indexFunc_b, indexFunc_rs, Try.f91, index_I hi, hlt', ints_len, h11, cb59, wrapS hlt hn, F.EVT, Am.splice, Am.enterN, Am.freshMem, Am.cA, Am.cB, Am.cK, Am.cL, Am.cS, Am.cT, Am.cE, Am.aresults, Am.aresult, Am.codeKey, Am.frzTop, Am.spliceP, Nat.reduceAdd, Nat.reduceLeDiff, Nat.reduceBEq, Nat.reduceEqDiff, reduceIte, reduceCtorEq, Nat.reduceSub, Int.reduceBEq, Int.reduceSub, Int.reduceAdd, Int.reduceToNat, Int.reduceLT, Int.reduceLE, Int.reduceEq, Int.reduceNeg, Int.reduceBNe, Int.reduceGT, Int.reduceGE, Nat.reduceMul, Nat.reduceMod, Nat.reduceDiv]
        exact ⟨_, rfl, by kernel_rfl⟩
      obtain ⟨st', h1, h2⟩ := hnext
      rw [h1, List.all_cons, hx, Bool.true_and]
      exact indexR_loop hn xs (i + 1) st' hd hlt h2
theorem containsR_ok {l : List Int} (hn : l.length ≤ LIM) : RR 61 [slI l, .func 59 [] []] [] = some (B (!l.all isTy), []) := by
  have hloop : ∃ r : Int, decide (r ≥ 0) = !l.all isTy ∧ RR 91 [slI l, .func 59 [] []] [] = some (I r, []) := by
    have hl := indexR_loop (l := l) hn l 0
    have hq : ∃ r : Int, decide (r ≥ 0) = !l.all isTy ∧ leaveR PP indexFunc_rs ([] : List Mem).length (acodeX PP RR [] indexFunc_L indexFunc_b (enterN 19 indexFunc_h [slI l, .func 59 [] []] [])) = some (I r, []) := by
      simp only [indexFunc_b, indexFunc_h, indexFunc_rs, Try.f91, ints_len, F.EVT, Am.splice, Am.enterN, Am.freshMem, Am.cA, Am.cB, Am.cK, Am.cL, Am.cS, Am.cT, Am.cE, Am.aresults, Am.aresult, Am.codeKey, Am.frzTop, Am.spliceP, Nat.reduceAdd, Nat.reduceLeDiff, Nat.reduceBEq, Nat.reduceEqDiff, reduceIte, reduceCtorEq, Nat.reduceSub, Int.reduceBEq, Int.reduceSub, Int.reduceAdd, Int.reduceToNat, Int.reduceLT, Int.reduceLE, Int.reduceEq, Int.reduceNeg, Int.reduceBNe, Int.reduceGT, Int.reduceGE, Nat.reduceMul, Nat.reduceMod, Nat.reduceDiv]
      exact hl _ rfl (Nat.zero_le _) (by kernel_rfl)
    obtain ⟨r, h1, h2⟩ := hq
    exact ⟨r, h1, indexFunc_r h2⟩
  obtain ⟨r, h1, h2⟩ := hloop
  apply contains_r
  rw [← h1]
  simp only [contains_b, contains_h, contains_rs, Try.f61, h2, F.EVT, Am.splice, Am.enterN, Am.freshMem, Am.cA, Am.cB, Am.cK, Am.cL, Am.cS, Am.cT, Am.cE, Am.aresults, Am.aresult, Am.codeKey, Am.frzTop, Am.spliceP, Nat.reduceAdd, Nat.reduceLeDiff, Nat.reduceBEq, Nat.reduceEqDiff, reduceIte, reduceCtorEq, Nat.reduceSub, Int.reduceBEq, Int.reduceSub, Int.reduceAdd, Int.reduceToNat, Int.reduceLT, Int.reduceLE, Int.reduceEq, Int.reduceNeg, Int.reduceBNe, Int.reduceGT, Int.reduceGE, Nat.reduceMul, Nat.reduceMod, Nat.reduceDiv]
  try rfl
theorem xRight_loop {fs : List Fn} (hn : fs.length ≤ LIM) (hF : fs.all fairF = true) : ∀ (xs : List Fn) (i : Nat) (st : St), fs.drop i = xs → i ≤ fs.length →
    St.forget (xRight_h.at 4) st = xRight_t4 (slF fs) (slF fs) (I fs.length) (I i) [⟨[], []⟩] → leaveR PP xRight_rs 0 (thenC (blockC 0 (xRight_L 4 st)) (acodeX PP RR [] xRight_L xRight_k4)) = some (B (rightL fs i xs), [])
  | [], i, st, h, hle, hst => by
    have he : i = fs.length := by have := drop_nil' h; omega
    subst he
    rw [xRight_q4, hst]
    simp only [rightL]
    rw [xRight_e4]; simp only [xRight_k4, xRight_l4, xRight_b, xRight_rs, Try.f32, Int.lt_irrefl, F.EVT, Am.splice, Am.enterN, Am.freshMem, Am.cA, Am.cB, Am.cK, Am.cL, Am.cS, Am.cT, Am.cE, Am.aresults, Am.aresult, Am.codeKey, Am.frzTop, Am.spliceP, Nat.reduceAdd, Nat.reduceLeDiff, Nat.reduceBEq, Nat.reduceEqDiff, reduceIte, reduceCtorEq, Nat.reduceSub, Int.reduceBEq, Int.reduceSub, Int.reduceAdd, Int.reduceToNat, Int.reduceLT, Int.reduceLE, Int.reduceEq, Int.reduceNeg, Int.reduceBNe, Int.reduceGT, Int.reduceGE, Nat.reduceMul, Nat.reduceMod, Nat.reduceDiv]
    try rfl
  | f :: xs, i, st, h, hle, hst => by
    obtain ⟨hlt, hi, hd⟩ := drop_cons h
    have hlt' : (i : Int) < fs.length := by omega
    rw [xRight_q4, hst]
    have hf : fairF f = true := List.all_eq_true.1 hF _ (List.mem_of_getElem? hi)
    have hw := wrapS hlt hn
    unfold fairF at hf
    simp only [Bool.and_eq_true, Bool.not_eq_true', decide_eq_false_iff_not] at hf
    have hp8 : f.params.length ≤ 8 := by omega
    have hbody : parts f.body ≤ 1000000 := by have := light_parts f.body 60 20 (by omega); omega
    have hpar : ∀ g ∈ fs.take i, g.params.length ≤ LIM := by
      intro g hg
      have := List.all_eq_true.1 hF _ (List.mem_of_mem_take hg)
      unfold fairF at this
      simp only [Bool.and_eq_true, Bool.not_eq_true', decide_eq_false_iff_not] at this
      simp only [LIM]; omega
    have ho := typed_ok (fs := fs.take i) (cols := []) (params := f.params) hpar f.body hbody
    simp only [E.av, tyAV, scv, show slI [] = .pv (.slc []) from rfl] at ho
    have hsl := slice_to hle
    have hct := containsR_ok (l := f.params) (by simp only [LIM]; omega)
    simp only [rightL, rightF]
    by_cases h6 : (f.params.length : Int) > 6
    · have hd6 : decide (f.params.length ≤ 6) = false := by simp; omega
      rw [hd6, Bool.and_false, Bool.and_false, Bool.false_and]
      rw [xRight_e4]; simp only [xRight_l4, xRight_b, xRight_rs, Try.f32, index_F hi, hlt', ints_len, h6, F.EVT, Am.splice, Am.enterN, Am.freshMem, Am.cA, Am.cB, Am.cK, Am.cL, Am.cS, Am.cT, Am.cE, Am.aresults, Am.aresult, Am.codeKey, Am.frzTop, Am.spliceP, Nat.reduceAdd, Nat.reduceLeDiff, Nat.reduceBEq, Nat.reduceEqDiff, reduceIte, reduceCtorEq, Nat.reduceSub, Int.reduceBEq, Int.reduceSub, Int.reduceAdd, Int.reduceToNat, Int.reduceLT, Int.reduceLE, Int.reduceEq, Int.reduceNeg, Int.reduceBNe, Int.reduceGT, Int.reduceGE, Nat.reduceMul, Nat.reduceMod, Nat.reduceDiv]
      try rfl
    · have hd6 : decide (f.params.length ≤ 6) = true := by simp; omega
      rw [hd6, Bool.and_true]
      cases hx : f.params.all isTy
      · rw [hx] at hct
        rw [xRight_e4]; simp only [xRight_l4, xRight_b, xRight_rs, Try.f32, index_F hi, hlt', ints_len, h6, hct, F.EVT, Am.splice, Am.enterN, Am.freshMem, Am.cA, Am.cB, Am.cK, Am.cL, Am.cS, Am.cT, Am.cE, Am.aresults, Am.aresult, Am.codeKey, Am.frzTop, Am.spliceP, Nat.reduceAdd, Nat.reduceLeDiff, Nat.reduceBEq, Nat.reduceEqDiff, reduceIte, reduceCtorEq, Nat.reduceSub, Int.reduceBEq, Int.reduceSub, Int.reduceAdd, Int.reduceToNat, Int.reduceLT, Int.reduceLE, Int.reduceEq, Int.reduceNeg, Int.reduceBNe, Int.reduceGT, Int.reduceGE, Nat.reduceMul, Nat.reduceMod, Nat.reduceDiv]
        try rfl
      · rw [hx] at hct
        rw [Bool.true_and]
        cases hty : tyD (fs.take i) [] f.params f.body with
        | none =>
          rw [hty] at ho
          simp only [Option.isSome_none] at ho
          rw [xRight_e4]; simp only [xRight_l4, xRight_b, xRight_rs, Try.f32, index_F hi, hlt', ints_len, h6, hct, hsl, ho, F.EVT, Am.splice, Am.enterN, Am.freshMem, Am.cA, Am.cB, Am.cK, Am.cL, Am.cS, Am.cT, Am.cE, Am.aresults, Am.aresult, Am.codeKey, Am.frzTop, Am.spliceP, Nat.reduceAdd, Nat.reduceLeDiff, Nat.reduceBEq, Nat.reduceEqDiff, reduceIte, reduceCtorEq, Nat.reduceSub, Int.reduceBEq, Int.reduceSub, Int.reduceAdd, Int.reduceToNat, Int.reduceLT, Int.reduceLE, Int.reduceEq, Int.reduceNeg, Int.reduceBNe, Int.reduceGT, Int.reduceGE, Nat.reduceMul, Nat.reduceMod, Nat.reduceDiv]
          try rfl
        | some u =>
          rw [hty] at ho
          simp only [Option.isSome_some, Option.getD_some] at ho
          by_cases hu : u = f.result
          · subst hu
            rw [beq_self_eq_true, Bool.true_and]
            rw [xRight_e4]; simp only [xRight_l4, xRight_b, xRight_rs, Try.f32, index_F hi, hlt', ints_len, h6, hct, hsl, ho, bne_self_eq_false, hw, F.EVT, Am.splice, Am.enterN, Am.freshMem, Am.cA, Am.cB, Am.cK, Am.cL, Am.cS, Am.cT, Am.cE, Am.aresults, Am.aresult, Am.codeKey, Am.frzTop, Am.spliceP, Nat.reduceAdd, Nat.reduceLeDiff, Nat.reduceBEq, Nat.reduceEqDiff, reduceIte, reduceCtorEq, Nat.reduceSub, Int.reduceBEq, Int.reduceSub, Int.reduceAdd, Int.reduceToNat, Int.reduceLT, Int.reduceLE, Int.reduceEq, Int.reduceNeg, Int.reduceBNe, Int.reduceGT, Int.reduceGE, Nat.reduceMul, Nat.reduceMod, Nat.reduceDiv]
            exact xRight_loop hn hF xs (i + 1) _ hd hlt (by kernel_rfl)
          · have hb : (some u == some f.result) = false := by simpa using hu
            rw [hb, Bool.false_and]
            rw [xRight_e4]; simp only [xRight_l4, xRight_b, xRight_rs, Try.f32, index_F hi, hlt', ints_len, h6, hct, hsl, ho, bne_no hu, F.EVT, Am.splice, Am.enterN, Am.freshMem, Am.cA, Am.cB, Am.cK, Am.cL, Am.cS, Am.cT, Am.cE, Am.aresults, Am.aresult, Am.codeKey, Am.frzTop, Am.spliceP, Nat.reduceAdd, Nat.reduceLeDiff, Nat.reduceBEq, Nat.reduceEqDiff, reduceIte, reduceCtorEq, Nat.reduceSub, Int.reduceBEq, Int.reduceSub, Int.reduceAdd, Int.reduceToNat, Int.reduceLT, Int.reduceLE, Int.reduceEq, Int.reduceNeg, Int.reduceBNe, Int.reduceGT, Int.reduceGE, Nat.reduceMul, Nat.reduceMod, Nat.reduceDiv]
            try rfl
theorem xRight_ok (fs : List Fn) (hF : fairB fs = true) : RR 32 [slF fs] [] = some (B (rightFs fs), []) := by
  unfold fairB at hF
  simp only [Bool.and_eq_true, decide_eq_true_eq] at hF
  have hl := xRight_loop (fs := fs) (by simp only [LIM]; omega) hF.1 fs 0
  unfold rightFs
  apply xRight_r
  by_cases h20 : (fs.length : Int) > 20
  · have hd : decide (fs.length ≤ 20) = false := by simp; omega
    rw [hd, Bool.false_and]
    simp only [xRight_b, xRight_h, xRight_rs, Try.f32, h20, F.EVT, Am.splice, Am.enterN, Am.freshMem, Am.cA, Am.cB, Am.cK, Am.cL, Am.cS, Am.cT, Am.cE, Am.aresults, Am.aresult, Am.codeKey, Am.frzTop, Am.spliceP, Nat.reduceAdd, Nat.reduceLeDiff, Nat.reduceBEq, Nat.reduceEqDiff, reduceIte, reduceCtorEq, Nat.reduceSub, Int.reduceBEq, Int.reduceSub, Int.reduceAdd, Int.reduceToNat, Int.reduceLT, Int.reduceLE, Int.reduceEq, Int.reduceNeg, Int.reduceBNe, Int.reduceGT, Int.reduceGE, Nat.reduceMul, Nat.reduceMod, Nat.reduceDiv]
    try rfl
  · have hd : decide (fs.length ≤ 20) = true := by simp; omega
    rw [hd, Bool.true_and]
    simp only [xRight_b, xRight_h, xRight_rs, Try.f32, h20, F.EVT, Am.splice, Am.enterN, Am.freshMem, Am.cA, Am.cB, Am.cK, Am.cL, Am.cS, Am.cT, Am.cE, Am.aresults, Am.aresult, Am.codeKey, Am.frzTop, Am.spliceP, Nat.reduceAdd, Nat.reduceLeDiff, Nat.reduceBEq, Nat.reduceEqDiff, reduceIte, reduceCtorEq, Nat.reduceSub, Int.reduceBEq, Int.reduceSub, Int.reduceAdd, Int.reduceToNat, Int.reduceLT, Int.reduceLE, Int.reduceEq, Int.reduceNeg, Int.reduceBNe, Int.reduceGT, Int.reduceGE, Nat.reduceMul, Nat.reduceMod, Nat.reduceDiv]
    exact hl _ rfl (Nat.zero_le _) (by kernel_rfl)
theorem xType_ok (fs : List Fn) (cols params : List Int) (e : E) (hF : fairB fs = true) (hp : parts e ≤ 1000000) : RR 11 [slF fs, slI cols, slI params, e.av] [] = some (tyAV (typeOf fs cols params e), []) := by
  have hpar : ∀ g ∈ fs, g.params.length ≤ LIM := by
    intro g hg
    unfold fairB at hF
    simp only [Bool.and_eq_true] at hF
    have := List.all_eq_true.1 hF.1 _ hg
    unfold fairF at this
    simp only [Bool.and_eq_true, Bool.not_eq_true', decide_eq_false_iff_not] at this
    simp only [LIM]; omega
  have h1 := xRight_ok fs hF
  have h2 := typed_ok (fs := fs) (cols := cols) (params := params) hpar e hp
  simp only [E.av, tyAV] at h2
  unfold typeOf
  apply xType_r
  cases hr : rightFs fs
  · rw [hr] at h1
    simp only [xType_b, xType_h, xType_rs, Try.f11, E.av, h1, F.EVT, Am.splice, Am.enterN, Am.freshMem, Am.cA, Am.cB, Am.cK, Am.cL, Am.cS, Am.cT, Am.cE, Am.aresults, Am.aresult, Am.codeKey, Am.frzTop, Am.spliceP, Nat.reduceAdd, Nat.reduceLeDiff, Nat.reduceBEq, Nat.reduceEqDiff, reduceIte, reduceCtorEq, Nat.reduceSub, Int.reduceBEq, Int.reduceSub, Int.reduceAdd, Int.reduceToNat, Int.reduceLT, Int.reduceLE, Int.reduceEq, Int.reduceNeg, Int.reduceBNe, Int.reduceGT, Int.reduceGE, Nat.reduceMul, Nat.reduceMod, Nat.reduceDiv]
    try rfl
  · rw [hr] at h1
    simp only [xType_b, xType_h, xType_rs, Try.f11, E.av, h1, h2, F.EVT, Am.splice, Am.enterN, Am.freshMem, Am.cA, Am.cB, Am.cK, Am.cL, Am.cS, Am.cT, Am.cE, Am.aresults, Am.aresult, Am.codeKey, Am.frzTop, Am.spliceP, Nat.reduceAdd, Nat.reduceLeDiff, Nat.reduceBEq, Nat.reduceEqDiff, reduceIte, reduceCtorEq, Nat.reduceSub, Int.reduceBEq, Int.reduceSub, Int.reduceAdd, Int.reduceToNat, Int.reduceLT, Int.reduceLE, Int.reduceEq, Int.reduceNeg, Int.reduceBNe, Int.reduceGT, Int.reduceGE, Nat.reduceMul, Nat.reduceMod, Nat.reduceDiv]
    try rfl
end Go.Proofs.Ytjbmdfdgeioecaa.X
