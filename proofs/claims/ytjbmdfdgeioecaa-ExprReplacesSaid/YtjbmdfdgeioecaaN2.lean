/- Comparison of values; light, fair, fits, kinds. -/
import Derived.Test.YtjbmdfdgeioecaaN1
namespace Go.Proofs.Ytjbmdfdgeioecaa.X
open Go.Proofs.Ytjbmdfdgeioecaa.Am Go.Proofs.Ytjbmdfdgeioecaa.F
set_option linter.unusedVariables false
set_option linter.unusedSimpArgs false
set_option maxRecDepth 100000
def vcmp (a b : V) : Int := firstNZ [cmpI a.kind b.kind, cmpI a.n b.n, Lib.compareBytes a.s.data.toList b.s.data.toList]
theorem vCompare_ok (a b : V) : RR 95 [.agg [.pv (.int .i64 a.kind), .pv (.int .i64 a.n), .pv (.str a.s)], .agg [.pv (.int .i64 b.kind), .pv (.int .i64 b.n), .pv (.str b.s)]] [] = some (.pv (.int .i64 (vcmp a b)), []) := by
  apply vCompare_r
  have h := cmpOr_ok [cmpI a.kind b.kind, cmpI a.n b.n, Lib.compareBytes a.s.data.toList b.s.data.toList] (by simp)
  simp only [ints, List.map_cons, List.map_nil] at h
  simp only [vCompare_b, vCompare_h, vCompare_rs, Try.f95, cmpCompare_ok, strCompare_ok, h, F.EVT, Am.splice, Am.enterN, Am.freshMem, Am.cA, Am.cB, Am.cK, Am.cL, Am.cS, Am.cT, Am.cE, Am.aresults, Am.aresult, Am.codeKey, Am.frzTop, Am.spliceP, Nat.reduceAdd, Nat.reduceLeDiff, Nat.reduceBEq, Nat.reduceEqDiff, reduceIte, reduceCtorEq, Nat.reduceSub, Int.reduceBEq, Int.reduceSub, Int.reduceAdd, Int.reduceToNat, Int.reduceLT, Int.reduceLE, Int.reduceEq, Int.reduceNeg, Int.reduceBNe, Int.reduceGT, Int.reduceGE, Nat.reduceMul, Nat.reduceMod, Nat.reduceDiv]
  rfl
theorem plt_ok (a b : V) : RR 75 [pr a b] [] = some ((tv (decide (vcmp a b < 0))).av, []) := by
  apply plt_r
  simp only [plt_b, plt_h, plt_rs, Try.f75, vCompare_ok, truth_r', F.EVT, Am.splice, Am.enterN, Am.freshMem, Am.cA, Am.cB, Am.cK, Am.cL, Am.cS, Am.cT, Am.cE, Am.aresults, Am.aresult, Am.codeKey, Am.frzTop, Am.spliceP, Nat.reduceAdd, Nat.reduceLeDiff, Nat.reduceBEq, Nat.reduceEqDiff, reduceIte, reduceCtorEq, Nat.reduceSub, Int.reduceBEq, Int.reduceSub, Int.reduceAdd, Int.reduceToNat, Int.reduceLT, Int.reduceLE, Int.reduceEq, Int.reduceNeg, Int.reduceBNe, Int.reduceGT, Int.reduceGE, Nat.reduceMul, Nat.reduceMod, Nat.reduceDiv]
  rfl
theorem ple_ok (a b : V) : RR 76 [pr a b] [] = some ((tv (decide (vcmp a b ≤ 0))).av, []) := by
  apply ple_r
  simp only [ple_b, ple_h, ple_rs, Try.f76, vCompare_ok, truth_r', F.EVT, Am.splice, Am.enterN, Am.freshMem, Am.cA, Am.cB, Am.cK, Am.cL, Am.cS, Am.cT, Am.cE, Am.aresults, Am.aresult, Am.codeKey, Am.frzTop, Am.spliceP, Nat.reduceAdd, Nat.reduceLeDiff, Nat.reduceBEq, Nat.reduceEqDiff, reduceIte, reduceCtorEq, Nat.reduceSub, Int.reduceBEq, Int.reduceSub, Int.reduceAdd, Int.reduceToNat, Int.reduceLT, Int.reduceLE, Int.reduceEq, Int.reduceNeg, Int.reduceBNe, Int.reduceGT, Int.reduceGE, Nat.reduceMul, Nat.reduceMod, Nat.reduceDiv]
  rfl
/-! ### bounds -/
mutual
def light : E → Int → Int → Int | .mk _ _ s args, n, lv => if n - 1 < 0 then -1 else if lv < 1 then -1 else if 300 < (s.size : Int) then -1 else lightL args (n - 1) (lv - 1)
def lightL : List E → Int → Int → Int | [], n, _ => n | a :: l, n, lv => if n < 0 then n else lightL l (light a n lv) lv
end
theorem light_eq (e : E) (n lv : Int) : light e n lv = if n - 1 < 0 then -1 else if lv < 1 then -1 else if 300 < (e.s.size : Int) then -1 else lightL e.args (n - 1) (lv - 1) := by cases e; simp only [light, E.s, E.args]; rfl
mutual
theorem light_bd : ∀ (e : E) (n lv : Int), 0 ≤ n → -1 ≤ light e n lv ∧ light e n lv ≤ n - (if light e n lv < 0 then 0 else 1)
  | .mk o m s args, n, lv, h => by
    simp only [light]
    by_cases h1 : n - 1 < 0
    · simp only [h1, if_true]; simp; omega
    · simp only [h1, if_false]
      split
      · simp; omega
      · split
        · simp; omega
        · have := lightL_bd args (n - 1) (lv - 1) (by omega)
          refine ⟨this.1, ?_⟩
          split <;> omega
theorem lightL_bd : ∀ (l : List E) (n lv : Int), -1 ≤ n → -1 ≤ lightL l n lv ∧ lightL l n lv ≤ n
  | [], n, lv, h => by simp only [lightL]; omega
  | a :: l, n, lv, h => by
    simp only [lightL]
    split
    · omega
    · have h1 := light_bd a n lv (by omega)
      have h2 := lightL_bd l (light a n lv) lv h1.1
      split at h1 <;> omega
end
abbrev emem (e : E) : List AV := [.pv (.int .i64 e.op), .pv (.int .i64 e.n), .pv (.str e.s), .pv (.slc (e.args.map E.pv))]
theorem sub1 {n : Int} (h : -100000 ≤ n) (h' : n ≤ 100000) : IntKind.i64.wrap (n - 1) = n - 1 := wrap_ok (by omega) (by omega)
theorem add1 {i : Nat} (h : (i : Int) ≤ 100000) : IntKind.i64.wrap ((i : Int) + 1) = ((i + 1 : Nat) : Int) := by rw [wrap_ok (by omega) (by omega)]; omega
theorem light_loop {e : E} {lv : Int} (hlv : 1 ≤ lv ∧ lv ≤ 1000) (hl : ∀ a ∈ e.args, ∀ n : Int, 0 ≤ n → n ≤ 1000 → RR 18 [a.av, I n, I (lv - 1)] [] = some (I (light a n (lv - 1)), [])) : ∀ (xs : List E) (i : Nat) (n : Int) (st : St), e.args.drop i = xs → i ≤ e.args.length → (i : Int) ≤ 1000 - n → -1 ≤ n →
    St.forget (light_h.at 5) st = light_t5 (I n) (I lv) (.ptr none 3 0) (I i) [⟨[(3, emem e)], []⟩] → leaveR PP light_rs 0 (thenC (blockC 0 (light_L 5 st)) (acodeX PP RR [] light_L light_k5)) = some (I (lightL xs n (lv - 1)), [])
  | [], i, n, st, h, hle, hi, hn, hst => by
    have he : i = e.args.length := by have := drop_nil' h; omega
    subst he
    rw [light_q5, hst]
    rw [light_e5]; simp only [light_k5, light_l5, light_b, light_rs, Try.f18, Int.lt_irrefl, F.EVT, Am.splice, Am.enterN, Am.freshMem, Am.cA, Am.cB, Am.cK, Am.cL, Am.cS, Am.cT, Am.cE, Am.aresults, Am.aresult, Am.codeKey, Am.frzTop, Am.spliceP, Nat.reduceAdd, Nat.reduceLeDiff, Nat.reduceBEq, Nat.reduceEqDiff, reduceIte, reduceCtorEq, Nat.reduceSub, Int.reduceBEq, Int.reduceSub, Int.reduceAdd, Int.reduceToNat, Int.reduceLT, Int.reduceLE, Int.reduceEq, Int.reduceNeg, Int.reduceBNe, Int.reduceGT, Int.reduceGE, Nat.reduceMul, Nat.reduceMod, Nat.reduceDiv]
    rfl
  | x :: xs, i, n, st, h, hle, hi, hn, hst => by
    obtain ⟨hlt, hi, hd⟩ := drop_cons h
    have hlt' : (i : Int) < e.args.length := by omega
    rw [light_q5, hst]
    by_cases h0 : n ≥ 0
    · have hr := hl x (List.mem_of_getElem? hi) n h0 (by omega)
      simp only [E.av] at hr
      have hb := light_bd x n (lv - 1) h0
      rw [light_e5]; simp only [light_k5, light_l5, light_b, light_rs, Try.f18, index_E hi, hlt', h0, sub1 (show -100000 ≤ lv by omega) (show lv ≤ 100000 by omega), add1 (show (i : Int) ≤ 100000 by omega), hr, F.EVT, Am.splice, Am.enterN, Am.freshMem, Am.cA, Am.cB, Am.cK, Am.cL, Am.cS, Am.cT, Am.cE, Am.aresults, Am.aresult, Am.codeKey, Am.frzTop, Am.spliceP, Nat.reduceAdd, Nat.reduceLeDiff, Nat.reduceBEq, Nat.reduceEqDiff, reduceIte, reduceCtorEq, Nat.reduceSub, Int.reduceBEq, Int.reduceSub, Int.reduceAdd, Int.reduceToNat, Int.reduceLT, Int.reduceLE, Int.reduceEq, Int.reduceNeg, Int.reduceBNe, Int.reduceGT, Int.reduceGE, Nat.reduceMul, Nat.reduceMod, Nat.reduceDiv]
      refine (light_loop hlv hl xs (i + 1) _ _ hd hlt ?_ hb.1 (by kernel_rfl)).trans ?_
      · have := hb.2; split at this <;> omega
      · have : ¬ n < 0 := by omega
        simp only [lightL, this, if_false]
    · rw [light_e5]; simp only [light_k5, light_l5, light_b, light_rs, Try.f18, hlt', h0, F.EVT, Am.splice, Am.enterN, Am.freshMem, Am.cA, Am.cB, Am.cK, Am.cL, Am.cS, Am.cT, Am.cE, Am.aresults, Am.aresult, Am.codeKey, Am.frzTop, Am.spliceP, Nat.reduceAdd, Nat.reduceLeDiff, Nat.reduceBEq, Nat.reduceEqDiff, reduceIte, reduceCtorEq, Nat.reduceSub, Int.reduceBEq, Int.reduceSub, Int.reduceAdd, Int.reduceToNat, Int.reduceLT, Int.reduceLE, Int.reduceEq, Int.reduceNeg, Int.reduceBNe, Int.reduceGT, Int.reduceGE, Nat.reduceMul, Nat.reduceMod, Nat.reduceDiv]
      have : n < 0 := by omega
      simp only [lightL, this, if_true]
theorem light_ok : ∀ (e : E) (n lv : Int), 0 ≤ n → n ≤ 1000 → 0 ≤ lv → lv ≤ 1000 → RR 18 [e.av, I n, I lv] [] = some (I (light e n lv), []) := by
  apply E.ind
  intro e ih n lv hn hn' hlv hlv'
  apply light_r
  rw [light_eq]
  have hw := sub1 (n := n) (by omega) (by omega)
  by_cases h1 : n - 1 < 0
  · simp only [light_b, light_h, light_rs, Try.f18, E.av, hw, h1, F.EVT, Am.splice, Am.enterN, Am.freshMem, Am.cA, Am.cB, Am.cK, Am.cL, Am.cS, Am.cT, Am.cE, Am.aresults, Am.aresult, Am.codeKey, Am.frzTop, Am.spliceP, Nat.reduceAdd, Nat.reduceLeDiff, Nat.reduceBEq, Nat.reduceEqDiff, reduceIte, reduceCtorEq, Nat.reduceSub, Int.reduceBEq, Int.reduceSub, Int.reduceAdd, Int.reduceToNat, Int.reduceLT, Int.reduceLE, Int.reduceEq, Int.reduceNeg, Int.reduceBNe, Int.reduceGT, Int.reduceGE, Nat.reduceMul, Nat.reduceMod, Nat.reduceDiv]
  · by_cases h2 : lv < 1
    · simp only [light_b, light_h, light_rs, Try.f18, E.av, hw, h1, h2, F.EVT, Am.splice, Am.enterN, Am.freshMem, Am.cA, Am.cB, Am.cK, Am.cL, Am.cS, Am.cT, Am.cE, Am.aresults, Am.aresult, Am.codeKey, Am.frzTop, Am.spliceP, Nat.reduceAdd, Nat.reduceLeDiff, Nat.reduceBEq, Nat.reduceEqDiff, reduceIte, reduceCtorEq, Nat.reduceSub, Int.reduceBEq, Int.reduceSub, Int.reduceAdd, Int.reduceToNat, Int.reduceLT, Int.reduceLE, Int.reduceEq, Int.reduceNeg, Int.reduceBNe, Int.reduceGT, Int.reduceGE, Nat.reduceMul, Nat.reduceMod, Nat.reduceDiv]
    · by_cases h3 : 300 < (e.s.size : Int)
      · have h3' : (e.s.size : Int) > 300 := h3
        simp only [light_b, light_h, light_rs, Try.f18, E.av, hw, h1, h2, h3, h3', F.EVT, Am.splice, Am.enterN, Am.freshMem, Am.cA, Am.cB, Am.cK, Am.cL, Am.cS, Am.cT, Am.cE, Am.aresults, Am.aresult, Am.codeKey, Am.frzTop, Am.spliceP, Nat.reduceAdd, Nat.reduceLeDiff, Nat.reduceBEq, Nat.reduceEqDiff, reduceIte, reduceCtorEq, Nat.reduceSub, Int.reduceBEq, Int.reduceSub, Int.reduceAdd, Int.reduceToNat, Int.reduceLT, Int.reduceLE, Int.reduceEq, Int.reduceNeg, Int.reduceBNe, Int.reduceGT, Int.reduceGE, Nat.reduceMul, Nat.reduceMod, Nat.reduceDiv]
      · have h3' : ¬ (e.s.size : Int) > 300 := h3
        simp only [light_b, light_h, light_rs, Try.f18, E.av, hw, h1, h2, h3, h3', F.EVT, Am.splice, Am.enterN, Am.freshMem, Am.cA, Am.cB, Am.cK, Am.cL, Am.cS, Am.cT, Am.cE, Am.aresults, Am.aresult, Am.codeKey, Am.frzTop, Am.spliceP, Nat.reduceAdd, Nat.reduceLeDiff, Nat.reduceBEq, Nat.reduceEqDiff, reduceIte, reduceCtorEq, Nat.reduceSub, Int.reduceBEq, Int.reduceSub, Int.reduceAdd, Int.reduceToNat, Int.reduceLT, Int.reduceLE, Int.reduceEq, Int.reduceNeg, Int.reduceBNe, Int.reduceGT, Int.reduceGE, Nat.reduceMul, Nat.reduceMod, Nat.reduceDiv]
        exact light_loop (by omega) (fun a ha m hm hm' => ih a ha m (lv - 1) hm hm' (by omega) (by omega)) e.args 0 (n - 1) _ rfl (Nat.zero_le _) (by omega) (by omega) (by kernel_rfl)
end Go.Proofs.Ytjbmdfdgeioecaa.X
