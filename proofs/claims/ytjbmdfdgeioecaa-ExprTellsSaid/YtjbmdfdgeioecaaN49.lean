/- ExprTells: what the law gives. -/
import Derived.Test.YtjbmdfdgeioecaaN48
namespace Go.Proofs.Ytjbmdfdgeioecaa.X
open Go.Proofs.Ytjbmdfdgeioecaa.Am Go.Proofs.Ytjbmdfdgeioecaa.F
set_option linter.unusedVariables false
set_option linter.unusedSimpArgs false
set_option maxRecDepth 100000
set_option maxHeartbeats 1000000
theorem vbeq_self (v : V) : v.beq v = true := by unfold V.beq; simp
abbrev teSt (fs : List Fn) (e : E) (time : Int) (row : List V) (l : List E) (i : Int) : St := lTells_t5 (slF fs) (I time) (slV row) (slE l) (.ptr none 6 0) (B true) (I i) [⟨[(6, emem e)], []⟩]
theorem tells_end {fs : List Fn} {e : E} {time : Int} {row : List V} {l : List E} {t : Int} (G : Good fs e row t) (hp : parts e ≤ 100) (hl : ∀ x ∈ l, parts x ≤ 40) (st : St) (hst : St.forget (lTells_h.at 5) st = teSt fs e time row l l.length) :
    leaveR PP lTells_rs 0 (thenC (blockC 0 (lTells_L 5 st)) (acodeX PP RR lTells_L lTells_k5)) = some (B true, []) := by
  have h1 := xReplace_ok (e := e) (l := l) (K := 40) (by omega) hl (by have := Nat.mul_le_mul_right 40 hp; omega)
  have h2 := rReplace_ok (e := e) (l := l) (K := 40) (by omega) hl (by have := Nat.mul_le_mul_right 40 hp; omega)
  have h3 := xInline_ok G (by omega)
  have h4 := rInline_ok (e := e) G.fair (by omega)
  have hq1 : parts ((replE e l).getD E.z) ≤ 1000000 := by
    unfold replE
    cases hq : putE 3 l e with
    | none => have : parts E.z = 1 := rfl; simp only [Option.getD_none]; omega
    | some x =>
      have := putE_parts (K := 40) (by omega) hl e x hq
      have := Nat.mul_le_mul_right 40 hp
      simp only
      split
      · have : parts E.z = 1 := rfl; simp only [Option.getD_none]; omega
      · simp only [Option.getD_some]; omega
  have hq2 : parts ((inlE fs e).getD E.z) ≤ 1000000 := by
    unfold inlE
    cases hq : expE (bsL [] fs) e with
    | none => have : parts E.z = 1 := rfl; simp only [Option.getD_none]; omega
    | some x =>
      have := expE_parts hq
      simp only
      split
      · have : parts E.z = 1 := rfl; simp only [Option.getD_none]; omega
      · simp only [Option.getD_some]; omega
  have s1 := rSame_ok _ hq1
  have s2 := rSame_ok _ hq2
  obtain ⟨r1, _⟩ := good_eval (time := time) G
  have h5 := xEval_ok r1
  obtain ⟨r2, _, _⟩ := good_run (time := time) G
  have h6 := rEval_ok r2
  have h7 := xSteps_ok G
  have hn : fs.length ≤ 1000000 := by have := G.fair; unfold fairB at this; simp only [Bool.and_eq_true, decide_eq_true_eq] at this; omega
  have h8 := rSteps_ok (fs := fs) (e := e) hn G.parts (fair_parts G.fair)
  have h9 := xTimed_ok G
  have h10 := rTimed_ok (e := e) G.fair G.parts
  simp only [opAV] at h1 h2 h3 h4
  generalize (replE e l).isSome = b1 at h1 h2
  generalize (replE e l).getD E.z = x1 at h1 h2 s1
  generalize (inlE fs e).isSome = b2 at h3 h4
  generalize (inlE fs e).getD E.z = x2 at h3 h4 s2
  generalize evD fs time fs.length row [] e = v at h5 h6
  generalize stepsOf fs e = k at h7 h8
  generalize timedOf fs e = b3 at h9 h10
  have hv := vbeq_self v
  unfold V.beq at hv
  simp only [av_e e, av_e x1, av_e x2, V.av] at h1 h2 h3 h4 h5 h6 h7 h8 h9 h10 s1 s2
  rw [lTells_q5, hst]
  rw [lTells_e5]; simp only [lTells_k5, lTells_l5, lTells_b, lTells_rs, Try.f5, Int.lt_irrefl, h1, h2, h3, h4, s1, s2, h5, h6, h7, h8, h9, h10, hv, bne_self_eq_false, beq_self_eq_true, F.EVT, Am.splice, Am.enterN, Am.freshMem, Am.cA, Am.cB, Am.cK, Am.cL, Am.cS, Am.cT, Am.cE, Am.aresults, Am.aresult, Am.codeKey, Nat.reduceAdd, Nat.reduceLeDiff, Nat.reduceBEq, Nat.reduceEqDiff, reduceIte, reduceCtorEq, Nat.reduceSub, Int.reduceBEq, Int.reduceSub, Int.reduceAdd, Int.reduceToNat, Int.reduceLT, Int.reduceLE, Int.reduceEq, Int.reduceNeg, Int.reduceBNe, Int.reduceGT, Int.reduceGE, Nat.reduceMul, Nat.reduceMod, Nat.reduceDiv]
  try rfl
theorem tells_loop {fs : List Fn} {e : E} {time : Int} {row : List V} {l : List E} {t : Int} (G : Good fs e row t) (hp : parts e ≤ 100) (hn : l.length ≤ LIM) : ∀ (xs : List E) (i : Nat) (st : St), l.drop i = xs → i ≤ l.length → (∀ x ∈ l.take i, parts x ≤ 40) →
    St.forget (lTells_h.at 5) st = teSt fs e time row l i → leaveR PP lTells_rs 0 (thenC (blockC 0 (lTells_L 5 st)) (acodeX PP RR lTells_L lTells_k5)) = some (B true, [])
  | [], i, st, h, hle, hq, hst => by
    have he : i = l.length := by have := drop_nil' h; omega
    subst he
    rw [List.take_length] at hq
    exact tells_end G hp hq st hst
  | x :: xs, i, st, h, hle, hq, hst => by
    obtain ⟨hlt, hi, hd⟩ := drop_cons h
    have hlt' : (i : Int) < l.length := by omega
    have hr := light_ok x 40 20 (by omega) (by omega) (by omega) (by omega)
    simp only [E.av] at hr
    rw [lTells_q5, hst]
    by_cases hx : light x 40 20 < 0
    · rw [lTells_e5]; simp only [lTells_l5, lTells_b, lTells_rs, Try.f5, index_E hi, hlt', hr, hx, F.EVT, Am.splice, Am.enterN, Am.freshMem, Am.cA, Am.cB, Am.cK, Am.cL, Am.cS, Am.cT, Am.cE, Am.aresults, Am.aresult, Am.codeKey, Nat.reduceAdd, Nat.reduceLeDiff, Nat.reduceBEq, Nat.reduceEqDiff, reduceIte, reduceCtorEq, Nat.reduceSub, Int.reduceBEq, Int.reduceSub, Int.reduceAdd, Int.reduceToNat, Int.reduceLT, Int.reduceLE, Int.reduceEq, Int.reduceNeg, Int.reduceBNe, Int.reduceGT, Int.reduceGE, Nat.reduceMul, Nat.reduceMod, Nat.reduceDiv]
      try rfl
    · have hpx : parts x ≤ 40 := by have := light_parts x 40 20 (by omega); omega
      rw [lTells_e5]; simp only [lTells_l5, lTells_b, lTells_rs, Try.f5, index_E hi, hlt', hr, hx, wrapS hlt hn, F.EVT, Am.splice, Am.enterN, Am.freshMem, Am.cA, Am.cB, Am.cK, Am.cL, Am.cS, Am.cT, Am.cE, Am.aresults, Am.aresult, Am.codeKey, Nat.reduceAdd, Nat.reduceLeDiff, Nat.reduceBEq, Nat.reduceEqDiff, reduceIte, reduceCtorEq, Nat.reduceSub, Int.reduceBEq, Int.reduceSub, Int.reduceAdd, Int.reduceToNat, Int.reduceLT, Int.reduceLE, Int.reduceEq, Int.reduceNeg, Int.reduceBNe, Int.reduceGT, Int.reduceGE, Nat.reduceMul, Nat.reduceMod, Nat.reduceDiv]
      refine tells_loop (time := time) G hp hn xs (i + 1) _ hd hlt ?_ (by kernel_rfl)
      intro y hy
      rw [List.take_add_one, hi] at hy
      rcases List.mem_append.1 hy with hy | hy
      · exact hq y hy
      · simp only [Option.toList, List.mem_singleton] at hy; subst hy; exact hpx
theorem tells_ok {fs : List Fn} {e : E} {time : Int} {row : List V} {l : List E} (hn : fs.length ≤ LIM) (hr : row.length ≤ LIM) (hll : l.length ≤ LIM) : RR 5 [slF fs, e.av, I time, slV row, slE l] [] = some (B true, []) := by
  have hg := good_ok (e := e) hn hr
  cases hb : goodB fs e row
  · rw [hb] at hg
    simp only [E.av] at hg
    apply lTells_r
    simp only [lTells_b, lTells_h, lTells_rs, Try.f5, E.av, hg, small_ok, F.EVT, Am.splice, Am.enterN, Am.freshMem, Am.cA, Am.cB, Am.cK, Am.cL, Am.cS, Am.cT, Am.cE, Am.aresults, Am.aresult, Am.codeKey, Nat.reduceAdd, Nat.reduceLeDiff, Nat.reduceBEq, Nat.reduceEqDiff, reduceIte, reduceCtorEq, Nat.reduceSub, Int.reduceBEq, Int.reduceSub, Int.reduceAdd, Int.reduceToNat, Int.reduceLT, Int.reduceLE, Int.reduceEq, Int.reduceNeg, Int.reduceBNe, Int.reduceGT, Int.reduceGE, Nat.reduceMul, Nat.reduceMod, Nat.reduceDiv]
    try rfl
  · rw [hb] at hg
    by_cases h12 : (l.length : Int) > 12
    · simp only [E.av] at hg
      apply lTells_r
      simp only [lTells_b, lTells_h, lTells_rs, Try.f5, E.av, hg, small_ok, h12, F.EVT, Am.splice, Am.enterN, Am.freshMem, Am.cA, Am.cB, Am.cK, Am.cL, Am.cS, Am.cT, Am.cE, Am.aresults, Am.aresult, Am.codeKey, Nat.reduceAdd, Nat.reduceLeDiff, Nat.reduceBEq, Nat.reduceEqDiff, reduceIte, reduceCtorEq, Nat.reduceSub, Int.reduceBEq, Int.reduceSub, Int.reduceAdd, Int.reduceToNat, Int.reduceLT, Int.reduceLE, Int.reduceEq, Int.reduceNeg, Int.reduceBNe, Int.reduceGT, Int.reduceGE, Nat.reduceMul, Nat.reduceMod, Nat.reduceDiv]
      try rfl
    · obtain ⟨t, G⟩ := good_of hb
      have hp : parts e ≤ 100 := by
        unfold goodB at hb
        simp only [Bool.and_eq_true, Bool.not_eq_true', decide_eq_false_iff_not, decide_eq_true_eq] at hb
        have := light_parts e 100 20 (by omega)
        omega
      have hloop := tells_loop (time := time) G hp hll l 0
      simp only [E.av] at hg
      apply lTells_r
      simp only [lTells_b, lTells_h, lTells_rs, Try.f5, E.av, hg, small_ok, h12, F.EVT, Am.splice, Am.enterN, Am.freshMem, Am.cA, Am.cB, Am.cK, Am.cL, Am.cS, Am.cT, Am.cE, Am.aresults, Am.aresult, Am.codeKey, Nat.reduceAdd, Nat.reduceLeDiff, Nat.reduceBEq, Nat.reduceEqDiff, reduceIte, reduceCtorEq, Nat.reduceSub, Int.reduceBEq, Int.reduceSub, Int.reduceAdd, Int.reduceToNat, Int.reduceLT, Int.reduceLE, Int.reduceEq, Int.reduceNeg, Int.reduceBNe, Int.reduceGT, Int.reduceGE, Nat.reduceMul, Nat.reduceMod, Nat.reduceDiv]
      exact hloop _ rfl (Nat.zero_le _) (fun x hx => by simp at hx) (by kernel_rfl)
end Go.Proofs.Ytjbmdfdgeioecaa.X
