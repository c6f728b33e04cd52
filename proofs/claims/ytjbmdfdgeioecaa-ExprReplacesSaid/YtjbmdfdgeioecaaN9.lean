/- Types of expressions, as the document's answer gives them: Right and Type. -/
import Derived.Test.YtjbmdfdgeioecaaN8
namespace Go.Proofs.Ytjbmdfdgeioecaa.X
open Go.Proofs.Ytjbmdfdgeioecaa.Am Go.Proofs.Ytjbmdfdgeioecaa.F
set_option linter.unusedVariables false
set_option linter.unusedSimpArgs false
set_option maxRecDepth 100000
set_option maxHeartbeats 1000000
theorem sized_Fn (l : List Fn) : sized 7 (l.map Fn.pv) = true := by
  simp only [sized, List.all_map, List.all_eq_true, Function.comp, beq_iff_eq]
  exact fun e _ => e.pv_len
theorem slice_to {fs : List Fn} {i : Nat} (h : i ≤ fs.length) : sliceC 7 (slF fs) none (some (I i)) = some (slF (fs.take i)) := by
  have h2 : (0 : Int) ≤ i ∧ (i : Int) ≤ ((fs.map Fn.pv).length : Nat) := by rw [List.length_map]; omega
  rw [slc_C 7 _ _ _ (fs.map Fn.pv) rfl, if_pos (sized_Fn fs), bound_some, if_pos h2]
  simp [bound_none, List.map_take]
mutual
theorem light_parts : ∀ (e : E) (n lv : Int), 0 ≤ light e n lv → (parts e : Int) + light e n lv ≤ n
  | .mk o k s args, n, lv, h => by
    simp only [light] at h ⊢
    by_cases h1 : n - 1 < 0
    · rw [if_pos h1] at h; omega
    · rw [if_neg h1] at h ⊢
      by_cases h2 : lv < 1
      · rw [if_pos h2] at h; omega
      · rw [if_neg h2] at h ⊢
        by_cases h3 : 300 < (s.size : Int)
        · rw [if_pos h3] at h; omega
        · rw [if_neg h3] at h ⊢
          have := lightL_parts args (n - 1) (lv - 1) h
          simp only [parts]
          omega
theorem lightL_parts : ∀ (l : List E) (n lv : Int), 0 ≤ lightL l n lv → (partsL l : Int) + lightL l n lv ≤ n
  | [], n, lv, h => by simp only [lightL, partsL]; omega
  | a :: l, n, lv, h => by
    simp only [lightL] at h ⊢
    by_cases h1 : n < 0
    · rw [if_pos h1] at h; omega
    · rw [if_neg h1] at h ⊢
      have h2 := lightL_parts l (light a n lv) lv h
      have h3 := light_parts a n lv (by have : (0 : Int) ≤ partsL l := by omega
                                        omega)
      simp only [partsL]
      omega
end
theorem rRight_loop {fs : List Fn} (hn : fs.length ≤ LIM) (hF : fs.all fairF = true) : ∀ (xs : List Fn) (i : Nat) (st : St), fs.drop i = xs → i ≤ fs.length →
    St.forget (rRight_h.at 2) st = rRight_t2 (slF fs) (I i) [⟨[], []⟩] → leaveR PP rRight_rs 0 (thenC (blockC 0 (rRight_L 2 st)) (acodeX PP RR [] rRight_L rRight_k2)) = some (B (decide (fs.length ≤ 20) && rightL fs i xs), [])
  | [], i, st, h, hle, hst => by
    have he : i = fs.length := by have := drop_nil' h; omega
    subst he
    rw [rRight_q2, hst]
    have hd : decide ((fs.length : Int) ≤ 20) = decide (fs.length ≤ 20) := by simp; omega
    simp only [rightL, Bool.and_true, ← hd]
    rw [rRight_e2]; simp only [rRight_k2, rRight_l2, rRight_b, rRight_rs, Try.f33, Int.lt_irrefl, F.EVT, Am.splice, Am.enterN, Am.freshMem, Am.cA, Am.cB, Am.cK, Am.cL, Am.cS, Am.cT, Am.cE, Am.aresults, Am.aresult, Am.codeKey, Am.frzTop, Am.spliceP, Nat.reduceAdd, Nat.reduceLeDiff, Nat.reduceBEq, Nat.reduceEqDiff, reduceIte, reduceCtorEq, Nat.reduceSub, Int.reduceBEq, Int.reduceSub, Int.reduceAdd, Int.reduceToNat, Int.reduceLT, Int.reduceLE, Int.reduceEq, Int.reduceNeg, Int.reduceBNe, Int.reduceGT, Int.reduceGE, Nat.reduceMul, Nat.reduceMod, Nat.reduceDiv]
    try rfl
  | f :: xs, i, st, h, hle, hst => by
    obtain ⟨hlt, hi, hd⟩ := drop_cons h
    have hlt' : (i : Int) < fs.length := by omega
    rw [rRight_q2, hst]
    by_cases h20 : (i : Int) ≤ 20
    · have hf : fairF f = true := List.all_eq_true.1 hF _ (List.mem_of_getElem? hi)
      have hw := wrapS hlt hn
      unfold fairF at hf
      simp only [Bool.and_eq_true, Bool.not_eq_true', decide_eq_false_iff_not] at hf
      have hp8 : f.params.length ≤ 8 := by omega
      have hbody : parts f.body ≤ 1000000 := by have := light_parts f.body 60 20 (by omega); omega
      have hg : (decide (fs.length ≤ 20) && rightL fs i (f :: xs)) = (f.params.all isTy && ((tyD (fs.take i) [] f.params f.body == some f.result && decide (f.params.length ≤ 6)) && (decide (fs.length ≤ 20) && rightL fs (i + 1) xs))) := by
        simp only [rightL, rightF]
        cases decide (fs.length ≤ 20) <;> cases f.params.all isTy <;> cases (tyD (fs.take i) [] f.params f.body == some f.result && decide (f.params.length ≤ 6)) <;> simp
      have ho := rof_ok (fs := fs.take i) (cols := []) (params := f.params) f.body hbody
      simp only [E.av, tyAV, show slI [] = .pv (.slc []) from rfl] at ho
      have hsl := slice_to hle
      have hin := rRight_inner (fs := fs) (f := f) (i : Int) (by simp only [LIM]; omega) f.params 0 rfl (Nat.zero_le _)
      have hgo : ∀ (st : St) (j : Nat), rRight_X6 (rriSt fs f i (0 : Nat)) = rRight_X6 (rriSt fs f i j) → St.forget (rRight_h.at 6) st = rriSt fs f i (0 : Nat) → rRight_L 6 st = rRight_X6 (rriSt fs f i j) := fun st j h1 h2 => by rw [rRight_q6, h2, h1]
      have hl5 : (f.params.length : Int) > 6 ∨ ¬ (f.params.length : Int) > 6 := by omega
      rw [hg]
      clear hg hf
      rw [rRight_e2]; simp only [rRight_l2, rRight_b, rRight_rs, Try.f33, index_F hi, hlt', h20, F.EVT, Am.splice, Am.enterN, Am.freshMem, Am.cA, Am.cB, Am.cK, Am.cL, Am.cS, Am.cT, Am.cE, Am.aresults, Am.aresult, Am.codeKey, Am.frzTop, Am.spliceP, Nat.reduceAdd, Nat.reduceLeDiff, Nat.reduceBEq, Nat.reduceEqDiff, reduceIte, reduceCtorEq, Nat.reduceSub, Int.reduceBEq, Int.reduceSub, Int.reduceAdd, Int.reduceToNat, Int.reduceLT, Int.reduceLE, Int.reduceEq, Int.reduceNeg, Int.reduceBNe, Int.reduceGT, Int.reduceGE, Nat.reduceMul, Nat.reduceMod, Nat.reduceDiv]
      cases hx : f.params.all isTy
      · obtain ⟨j, x, hj, hk, hq⟩ := hin.2 hx
        have hjl : (j : Int) < f.params.length := by have := (List.getElem?_eq_some_iff.1 hj).1; omega
        rw [hgo _ j hq ?h]
        case h => kernel_rfl
        rw [rriSt]
        rw [rRight_e6]; simp only [rRight_l6, rRight_b, rRight_rs, Try.f33, index_I hj, hjl, ints_len, rkind_ok, hk, F.EVT, Am.splice, Am.enterN, Am.freshMem, Am.cA, Am.cB, Am.cK, Am.cL, Am.cS, Am.cT, Am.cE, Am.aresults, Am.aresult, Am.codeKey, Am.frzTop, Am.spliceP, Nat.reduceAdd, Nat.reduceLeDiff, Nat.reduceBEq, Nat.reduceEqDiff, reduceIte, reduceCtorEq, Nat.reduceSub, Int.reduceBEq, Int.reduceSub, Int.reduceAdd, Int.reduceToNat, Int.reduceLT, Int.reduceLE, Int.reduceEq, Int.reduceNeg, Int.reduceBNe, Int.reduceGT, Int.reduceGE, Nat.reduceMul, Nat.reduceMod, Nat.reduceDiv]
        try rfl
      · rw [hgo _ _ (hin.1 hx) ?h]
        case h => kernel_rfl
        rw [rriSt, Bool.true_and]
        cases hty : tyD (fs.take i) [] f.params f.body with
        | none =>
          rw [hty] at ho
          simp only [Option.isSome_none] at ho
          rw [rRight_e6]; simp only [rRight_l6, rRight_b, rRight_rs, Try.f33, Int.lt_irrefl, hsl, ho, ints_len, F.EVT, Am.splice, Am.enterN, Am.freshMem, Am.cA, Am.cB, Am.cK, Am.cL, Am.cS, Am.cT, Am.cE, Am.aresults, Am.aresult, Am.codeKey, Am.frzTop, Am.spliceP, Nat.reduceAdd, Nat.reduceLeDiff, Nat.reduceBEq, Nat.reduceEqDiff, reduceIte, reduceCtorEq, Nat.reduceSub, Int.reduceBEq, Int.reduceSub, Int.reduceAdd, Int.reduceToNat, Int.reduceLT, Int.reduceLE, Int.reduceEq, Int.reduceNeg, Int.reduceBNe, Int.reduceGT, Int.reduceGE, Nat.reduceMul, Nat.reduceMod, Nat.reduceDiv]
          try rfl
        | some u =>
          rw [hty] at ho
          simp only [Option.isSome_some, Option.getD_some] at ho
          by_cases hu : u = f.result
          · subst hu
            by_cases h6 : (f.params.length : Int) > 6
            · have hd6 : decide (f.params.length ≤ 6) = false := by simp; omega
              rw [hd6, Bool.and_false]
              rw [rRight_e6]; simp only [rRight_l6, rRight_b, rRight_rs, Try.f33, Int.lt_irrefl, hsl, ho, bne_self_eq_false, h6, ints_len, F.EVT, Am.splice, Am.enterN, Am.freshMem, Am.cA, Am.cB, Am.cK, Am.cL, Am.cS, Am.cT, Am.cE, Am.aresults, Am.aresult, Am.codeKey, Am.frzTop, Am.spliceP, Nat.reduceAdd, Nat.reduceLeDiff, Nat.reduceBEq, Nat.reduceEqDiff, reduceIte, reduceCtorEq, Nat.reduceSub, Int.reduceBEq, Int.reduceSub, Int.reduceAdd, Int.reduceToNat, Int.reduceLT, Int.reduceLE, Int.reduceEq, Int.reduceNeg, Int.reduceBNe, Int.reduceGT, Int.reduceGE, Nat.reduceMul, Nat.reduceMod, Nat.reduceDiv]
              try rfl
            · have hd6 : decide (f.params.length ≤ 6) = true := by simp; omega
              rw [hd6, Bool.and_true, beq_self_eq_true, Bool.true_and]
              rw [rRight_e6]; simp only [rRight_l6, rRight_b, rRight_rs, Try.f33, Int.lt_irrefl, hsl, ho, bne_self_eq_false, h6, ints_len, hw, F.EVT, Am.splice, Am.enterN, Am.freshMem, Am.cA, Am.cB, Am.cK, Am.cL, Am.cS, Am.cT, Am.cE, Am.aresults, Am.aresult, Am.codeKey, Am.frzTop, Am.spliceP, Nat.reduceAdd, Nat.reduceLeDiff, Nat.reduceBEq, Nat.reduceEqDiff, reduceIte, reduceCtorEq, Nat.reduceSub, Int.reduceBEq, Int.reduceSub, Int.reduceAdd, Int.reduceToNat, Int.reduceLT, Int.reduceLE, Int.reduceEq, Int.reduceNeg, Int.reduceBNe, Int.reduceGT, Int.reduceGE, Nat.reduceMul, Nat.reduceMod, Nat.reduceDiv]
              exact rRight_loop hn hF xs (i + 1) _ hd hlt (by kernel_rfl)
          · have hb : (some u == some f.result) = false := by simpa using hu
            rw [hb, Bool.false_and, Bool.false_and]
            rw [rRight_e6]; simp only [rRight_l6, rRight_b, rRight_rs, Try.f33, Int.lt_irrefl, hsl, ho, bne_no hu, ints_len, F.EVT, Am.splice, Am.enterN, Am.freshMem, Am.cA, Am.cB, Am.cK, Am.cL, Am.cS, Am.cT, Am.cE, Am.aresults, Am.aresult, Am.codeKey, Am.frzTop, Am.spliceP, Nat.reduceAdd, Nat.reduceLeDiff, Nat.reduceBEq, Nat.reduceEqDiff, reduceIte, reduceCtorEq, Nat.reduceSub, Int.reduceBEq, Int.reduceSub, Int.reduceAdd, Int.reduceToNat, Int.reduceLT, Int.reduceLE, Int.reduceEq, Int.reduceNeg, Int.reduceBNe, Int.reduceGT, Int.reduceGE, Nat.reduceMul, Nat.reduceMod, Nat.reduceDiv]
            try rfl
    · have hd : decide (fs.length ≤ 20) = false := by simp; omega
      rw [hd, Bool.false_and]
      have hd' : decide ((fs.length : Int) ≤ 20) = false := by simp; omega
      rw [rRight_e2]; simp only [rRight_k2, rRight_l2, rRight_b, rRight_rs, Try.f33, hlt', h20, hd', F.EVT, Am.splice, Am.enterN, Am.freshMem, Am.cA, Am.cB, Am.cK, Am.cL, Am.cS, Am.cT, Am.cE, Am.aresults, Am.aresult, Am.codeKey, Am.frzTop, Am.spliceP, Nat.reduceAdd, Nat.reduceLeDiff, Nat.reduceBEq, Nat.reduceEqDiff, reduceIte, reduceCtorEq, Nat.reduceSub, Int.reduceBEq, Int.reduceSub, Int.reduceAdd, Int.reduceToNat, Int.reduceLT, Int.reduceLE, Int.reduceEq, Int.reduceNeg, Int.reduceBNe, Int.reduceGT, Int.reduceGE, Nat.reduceMul, Nat.reduceMod, Nat.reduceDiv]
      try rfl
theorem rRight_ok (fs : List Fn) (hF : fairB fs = true) : RR 33 [slF fs] [] = some (B (rightFs fs), []) := by
  unfold fairB at hF
  simp only [Bool.and_eq_true, decide_eq_true_eq] at hF
  have hl := rRight_loop (fs := fs) (by simp only [LIM]; omega) hF.1 fs 0
  apply rRight_r
  simp only [rRight_b, rRight_h, rRight_rs, Try.f33, F.EVT, Am.splice, Am.enterN, Am.freshMem, Am.cA, Am.cB, Am.cK, Am.cL, Am.cS, Am.cT, Am.cE, Am.aresults, Am.aresult, Am.codeKey, Am.frzTop, Am.spliceP, Nat.reduceAdd, Nat.reduceLeDiff, Nat.reduceBEq, Nat.reduceEqDiff, reduceIte, reduceCtorEq, Nat.reduceSub, Int.reduceBEq, Int.reduceSub, Int.reduceAdd, Int.reduceToNat, Int.reduceLT, Int.reduceLE, Int.reduceEq, Int.reduceNeg, Int.reduceBNe, Int.reduceGT, Int.reduceGE, Nat.reduceMul, Nat.reduceMod, Nat.reduceDiv]
  exact hl _ rfl (Nat.zero_le _) (by kernel_rfl)
def typeOf (fs : List Fn) (cols params : List Int) (e : E) : Option Int := if rightFs fs then tyD fs cols params e else none
theorem rType_ok (fs : List Fn) (cols params : List Int) (e : E) (hF : fairB fs = true) (hp : parts e ≤ 1000000) : RR 31 [slF fs, slI cols, slI params, e.av] [] = some (tyAV (typeOf fs cols params e), []) := by
  have h1 := rRight_ok fs hF
  have h2 := rof_ok (fs := fs) (cols := cols) (params := params) e hp
  simp only [E.av, tyAV] at h2
  unfold typeOf
  apply rType_r
  cases hr : rightFs fs
  · rw [hr] at h1
    simp only [rType_b, rType_h, rType_rs, Try.f31, E.av, h1, F.EVT, Am.splice, Am.enterN, Am.freshMem, Am.cA, Am.cB, Am.cK, Am.cL, Am.cS, Am.cT, Am.cE, Am.aresults, Am.aresult, Am.codeKey, Am.frzTop, Am.spliceP, Nat.reduceAdd, Nat.reduceLeDiff, Nat.reduceBEq, Nat.reduceEqDiff, reduceIte, reduceCtorEq, Nat.reduceSub, Int.reduceBEq, Int.reduceSub, Int.reduceAdd, Int.reduceToNat, Int.reduceLT, Int.reduceLE, Int.reduceEq, Int.reduceNeg, Int.reduceBNe, Int.reduceGT, Int.reduceGE, Nat.reduceMul, Nat.reduceMod, Nat.reduceDiv]
    try rfl
  · rw [hr] at h1
    simp only [rType_b, rType_h, rType_rs, Try.f31, E.av, h1, h2, F.EVT, Am.splice, Am.enterN, Am.freshMem, Am.cA, Am.cB, Am.cK, Am.cL, Am.cS, Am.cT, Am.cE, Am.aresults, Am.aresult, Am.codeKey, Am.frzTop, Am.spliceP, Nat.reduceAdd, Nat.reduceLeDiff, Nat.reduceBEq, Nat.reduceEqDiff, reduceIte, reduceCtorEq, Nat.reduceSub, Int.reduceBEq, Int.reduceSub, Int.reduceAdd, Int.reduceToNat, Int.reduceLT, Int.reduceLE, Int.reduceEq, Int.reduceNeg, Int.reduceBNe, Int.reduceGT, Int.reduceGE, Nat.reduceMul, Nat.reduceMod, Nat.reduceDiv]
    try rfl
end Go.Proofs.Ytjbmdfdgeioecaa.X
