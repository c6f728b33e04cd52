/- The operations on two values. -/
import Derived.Test.YtjbmdfdgeioecaaT1
import Derived.Test.YtjbmdfdgeioecaaN0
namespace Go.Proofs.Ytjbmdfdgeioecaa.X
open Go.Proofs.Ytjbmdfdgeioecaa.Am Go.Proofs.Ytjbmdfdgeioecaa.F
set_option linter.unusedVariables false
set_option linter.unusedSimpArgs false
set_option maxRecDepth 100000
abbrev pr (a b : V) : AV := .agg [.pv (.int .i64 a.kind), .pv (.int .i64 a.n), .pv (.str a.s), .pv (.int .i64 b.kind), .pv (.int .i64 b.n), .pv (.str b.s)]
abbrev w64 (n : Int) : Int := IntKind.i64.wrap n
theorem number_r' (n : Int) : RR 66 [.pv (.int .i64 n)] [] = some (.agg [.pv (.int .i64 0), .pv (.int .i64 n), .pv (.str ByteArray.empty)], []) := number_ok n
theorem truth_r' (b : Bool) : RR 67 [.pv (.bool b)] [] = some (.agg [.pv (.int .i64 2), .pv (.int .i64 (if b then 1 else 0)), .pv (.str ByteArray.empty)], []) := truth_ok b
theorem padd_ok (a b : V) : RR 68 [pr a b] [] = some ((nv (w64 (a.n + b.n))).av, []) := by
  apply padd_r
  simp only [padd_b, padd_h, padd_rs, Try.f68, number_r', F.EVT, Am.splice, Am.enterN, Am.freshMem, Am.cA, Am.cB, Am.cK, Am.cL, Am.cS, Am.cT, Am.cE, Am.aresults, Am.aresult, Am.codeKey, Am.frzTop, Am.spliceP, Nat.reduceAdd, Nat.reduceLeDiff, Nat.reduceBEq, Nat.reduceEqDiff, reduceIte, reduceCtorEq, Nat.reduceSub, Int.reduceBEq, Int.reduceSub, Int.reduceAdd, Int.reduceToNat, Int.reduceLT, Int.reduceLE, Int.reduceEq, Int.reduceNeg, Int.reduceBNe, Int.reduceGT, Int.reduceGE, Nat.reduceMul, Nat.reduceMod, Nat.reduceDiv]
  rfl
theorem psub_ok (a b : V) : RR 69 [pr a b] [] = some ((nv (w64 (a.n - b.n))).av, []) := by
  apply psub_r
  simp only [psub_b, psub_h, psub_rs, Try.f69, number_r', F.EVT, Am.splice, Am.enterN, Am.freshMem, Am.cA, Am.cB, Am.cK, Am.cL, Am.cS, Am.cT, Am.cE, Am.aresults, Am.aresult, Am.codeKey, Am.frzTop, Am.spliceP, Nat.reduceAdd, Nat.reduceLeDiff, Nat.reduceBEq, Nat.reduceEqDiff, reduceIte, reduceCtorEq, Nat.reduceSub, Int.reduceBEq, Int.reduceSub, Int.reduceAdd, Int.reduceToNat, Int.reduceLT, Int.reduceLE, Int.reduceEq, Int.reduceNeg, Int.reduceBNe, Int.reduceGT, Int.reduceGE, Nat.reduceMul, Nat.reduceMod, Nat.reduceDiv]
  rfl
theorem pmul_ok (a b : V) : RR 70 [pr a b] [] = some ((nv (w64 (a.n * b.n))).av, []) := by
  apply pmul_r
  simp only [pmul_b, pmul_h, pmul_rs, Try.f70, number_r', F.EVT, Am.splice, Am.enterN, Am.freshMem, Am.cA, Am.cB, Am.cK, Am.cL, Am.cS, Am.cT, Am.cE, Am.aresults, Am.aresult, Am.codeKey, Am.frzTop, Am.spliceP, Nat.reduceAdd, Nat.reduceLeDiff, Nat.reduceBEq, Nat.reduceEqDiff, reduceIte, reduceCtorEq, Nat.reduceSub, Int.reduceBEq, Int.reduceSub, Int.reduceAdd, Int.reduceToNat, Int.reduceLT, Int.reduceLE, Int.reduceEq, Int.reduceNeg, Int.reduceBNe, Int.reduceGT, Int.reduceGE, Nat.reduceMul, Nat.reduceMod, Nat.reduceDiv]
  rfl
theorem pdiv_ok (a b : V) : RR 71 [pr a b] [] = some ((nv (if b.n = 0 then 0 else w64 (a.n.tdiv b.n))).av, []) := by
  apply pdiv_r
  by_cases h : b.n = 0
  · simp only [pdiv_b, pdiv_h, pdiv_rs, Try.f71, number_r', h, F.EVT, Am.splice, Am.enterN, Am.freshMem, Am.cA, Am.cB, Am.cK, Am.cL, Am.cS, Am.cT, Am.cE, Am.aresults, Am.aresult, Am.codeKey, Am.frzTop, Am.spliceP, Nat.reduceAdd, Nat.reduceLeDiff, Nat.reduceBEq, Nat.reduceEqDiff, reduceIte, reduceCtorEq, Nat.reduceSub, Int.reduceBEq, Int.reduceSub, Int.reduceAdd, Int.reduceToNat, Int.reduceLT, Int.reduceLE, Int.reduceEq, Int.reduceNeg, Int.reduceBNe, Int.reduceGT, Int.reduceGE, Nat.reduceMul, Nat.reduceMod, Nat.reduceDiv]
    rfl
  · have h' : (b.n == 0) = false := by simpa using h
    simp only [pdiv_b, pdiv_h, pdiv_rs, Try.f71, number_r', h, h', F.EVT, Am.splice, Am.enterN, Am.freshMem, Am.cA, Am.cB, Am.cK, Am.cL, Am.cS, Am.cT, Am.cE, Am.aresults, Am.aresult, Am.codeKey, Am.frzTop, Am.spliceP, Nat.reduceAdd, Nat.reduceLeDiff, Nat.reduceBEq, Nat.reduceEqDiff, reduceIte, reduceCtorEq, Nat.reduceSub, Int.reduceBEq, Int.reduceSub, Int.reduceAdd, Int.reduceToNat, Int.reduceLT, Int.reduceLE, Int.reduceEq, Int.reduceNeg, Int.reduceBNe, Int.reduceGT, Int.reduceGE, Nat.reduceMul, Nat.reduceMod, Nat.reduceDiv]
    rfl
theorem pmod_ok (a b : V) : RR 72 [pr a b] [] = some ((nv (if b.n = 0 then 0 else a.n.tmod b.n)).av, []) := by
  apply pmod_r
  by_cases h : b.n = 0
  · simp only [pmod_b, pmod_h, pmod_rs, Try.f72, number_r', h, F.EVT, Am.splice, Am.enterN, Am.freshMem, Am.cA, Am.cB, Am.cK, Am.cL, Am.cS, Am.cT, Am.cE, Am.aresults, Am.aresult, Am.codeKey, Am.frzTop, Am.spliceP, Nat.reduceAdd, Nat.reduceLeDiff, Nat.reduceBEq, Nat.reduceEqDiff, reduceIte, reduceCtorEq, Nat.reduceSub, Int.reduceBEq, Int.reduceSub, Int.reduceAdd, Int.reduceToNat, Int.reduceLT, Int.reduceLE, Int.reduceEq, Int.reduceNeg, Int.reduceBNe, Int.reduceGT, Int.reduceGE, Nat.reduceMul, Nat.reduceMod, Nat.reduceDiv]
    rfl
  · have h' : (b.n == 0) = false := by simpa using h
    simp only [pmod_b, pmod_h, pmod_rs, Try.f72, number_r', h, h', F.EVT, Am.splice, Am.enterN, Am.freshMem, Am.cA, Am.cB, Am.cK, Am.cL, Am.cS, Am.cT, Am.cE, Am.aresults, Am.aresult, Am.codeKey, Am.frzTop, Am.spliceP, Nat.reduceAdd, Nat.reduceLeDiff, Nat.reduceBEq, Nat.reduceEqDiff, reduceIte, reduceCtorEq, Nat.reduceSub, Int.reduceBEq, Int.reduceSub, Int.reduceAdd, Int.reduceToNat, Int.reduceLT, Int.reduceLE, Int.reduceEq, Int.reduceNeg, Int.reduceBNe, Int.reduceGT, Int.reduceGE, Nat.reduceMul, Nat.reduceMod, Nat.reduceDiv]
    rfl
def V.beq (a b : V) : Bool := a.kind == b.kind && (a.n == b.n && a.s.toList == b.s.toList)
theorem peq_ok (a b : V) : RR 73 [pr a b] [] = some ((tv (a.beq b)).av, []) := by
  apply peq_r
  simp only [peq_b, peq_h, peq_rs, Try.f73, truth_r', F.EVT, Am.splice, Am.enterN, Am.freshMem, Am.cA, Am.cB, Am.cK, Am.cL, Am.cS, Am.cT, Am.cE, Am.aresults, Am.aresult, Am.codeKey, Am.frzTop, Am.spliceP, Nat.reduceAdd, Nat.reduceLeDiff, Nat.reduceBEq, Nat.reduceEqDiff, reduceIte, reduceCtorEq, Nat.reduceSub, Int.reduceBEq, Int.reduceSub, Int.reduceAdd, Int.reduceToNat, Int.reduceLT, Int.reduceLE, Int.reduceEq, Int.reduceNeg, Int.reduceBNe, Int.reduceGT, Int.reduceGE, Nat.reduceMul, Nat.reduceMod, Nat.reduceDiv]
  rfl
theorem pne_ok (a b : V) : RR 74 [pr a b] [] = some ((tv (!a.beq b)).av, []) := by
  apply pne_r
  simp only [pne_b, pne_h, pne_rs, Try.f74, truth_r', F.EVT, Am.splice, Am.enterN, Am.freshMem, Am.cA, Am.cB, Am.cK, Am.cL, Am.cS, Am.cT, Am.cE, Am.aresults, Am.aresult, Am.codeKey, Am.frzTop, Am.spliceP, Nat.reduceAdd, Nat.reduceLeDiff, Nat.reduceBEq, Nat.reduceEqDiff, reduceIte, reduceCtorEq, Nat.reduceSub, Int.reduceBEq, Int.reduceSub, Int.reduceAdd, Int.reduceToNat, Int.reduceLT, Int.reduceLE, Int.reduceEq, Int.reduceNeg, Int.reduceBNe, Int.reduceGT, Int.reduceGE, Nat.reduceMul, Nat.reduceMod, Nat.reduceDiv]
  rfl
theorem pboth_ok (a b : V) : RR 77 [pr a b] [] = some ((tv (a.n == 1 && b.n == 1)).av, []) := by
  apply pboth_r
  cases h : a.n == 1
  · simp only [pboth_b, pboth_h, pboth_rs, Try.f77, truth_r', h, F.EVT, Am.splice, Am.enterN, Am.freshMem, Am.cA, Am.cB, Am.cK, Am.cL, Am.cS, Am.cT, Am.cE, Am.aresults, Am.aresult, Am.codeKey, Am.frzTop, Am.spliceP, Nat.reduceAdd, Nat.reduceLeDiff, Nat.reduceBEq, Nat.reduceEqDiff, reduceIte, reduceCtorEq, Nat.reduceSub, Int.reduceBEq, Int.reduceSub, Int.reduceAdd, Int.reduceToNat, Int.reduceLT, Int.reduceLE, Int.reduceEq, Int.reduceNeg, Int.reduceBNe, Int.reduceGT, Int.reduceGE, Nat.reduceMul, Nat.reduceMod, Nat.reduceDiv]
    rfl
  · simp only [pboth_b, pboth_h, pboth_rs, Try.f77, truth_r', h, F.EVT, Am.splice, Am.enterN, Am.freshMem, Am.cA, Am.cB, Am.cK, Am.cL, Am.cS, Am.cT, Am.cE, Am.aresults, Am.aresult, Am.codeKey, Am.frzTop, Am.spliceP, Nat.reduceAdd, Nat.reduceLeDiff, Nat.reduceBEq, Nat.reduceEqDiff, reduceIte, reduceCtorEq, Nat.reduceSub, Int.reduceBEq, Int.reduceSub, Int.reduceAdd, Int.reduceToNat, Int.reduceLT, Int.reduceLE, Int.reduceEq, Int.reduceNeg, Int.reduceBNe, Int.reduceGT, Int.reduceGE, Nat.reduceMul, Nat.reduceMod, Nat.reduceDiv]
    rfl
theorem pany_ok (a b : V) : RR 78 [pr a b] [] = some ((tv (a.n == 1 || b.n == 1)).av, []) := by
  apply pany_r
  cases h : a.n == 1
  · simp only [pany_b, pany_h, pany_rs, Try.f78, truth_r', h, F.EVT, Am.splice, Am.enterN, Am.freshMem, Am.cA, Am.cB, Am.cK, Am.cL, Am.cS, Am.cT, Am.cE, Am.aresults, Am.aresult, Am.codeKey, Am.frzTop, Am.spliceP, Nat.reduceAdd, Nat.reduceLeDiff, Nat.reduceBEq, Nat.reduceEqDiff, reduceIte, reduceCtorEq, Nat.reduceSub, Int.reduceBEq, Int.reduceSub, Int.reduceAdd, Int.reduceToNat, Int.reduceLT, Int.reduceLE, Int.reduceEq, Int.reduceNeg, Int.reduceBNe, Int.reduceGT, Int.reduceGE, Nat.reduceMul, Nat.reduceMod, Nat.reduceDiv]
    rfl
  · simp only [pany_b, pany_h, pany_rs, Try.f78, truth_r', h, F.EVT, Am.splice, Am.enterN, Am.freshMem, Am.cA, Am.cB, Am.cK, Am.cL, Am.cS, Am.cT, Am.cE, Am.aresults, Am.aresult, Am.codeKey, Am.frzTop, Am.spliceP, Nat.reduceAdd, Nat.reduceLeDiff, Nat.reduceBEq, Nat.reduceEqDiff, reduceIte, reduceCtorEq, Nat.reduceSub, Int.reduceBEq, Int.reduceSub, Int.reduceAdd, Int.reduceToNat, Int.reduceLT, Int.reduceLE, Int.reduceEq, Int.reduceNeg, Int.reduceBNe, Int.reduceGT, Int.reduceGE, Nat.reduceMul, Nat.reduceMod, Nat.reduceDiv]
    rfl
def cut200 (s : ByteArray) : ByteArray := s.extract 0 (min 200 s.size)
theorem min200 (s : ByteArray) : (if (200 : Int) < (s.size : Int) then (200 : Int) else (s.size : Int)) = ((min 200 s.size : Nat) : Int) := by split <;> omega
theorem min200_ok (s : ByteArray) : (0 ≤ ((min 200 s.size : Nat) : Int) ∧ ((min 200 s.size : Nat) : Int) ≤ (s.size : Int)) = True := eq_true (by omega)
theorem pjoin_ok (a b : V) (ha : a.s.size ≤ 1000000000) (hb : b.s.size ≤ 1000000000) : RR 79 [pr a b] [] = some ((V.mk 1 0 (cut200 (a.s ++ b.s))).av, []) := by
  apply pjoin_r
  have h : a.s.size + b.s.size ≤ 9223372036854775807 := by omega
  simp only [pjoin_b, pjoin_h, pjoin_rs, Try.f79, h, min200, min200_ok, Int.toNat_natCast, F.EVT, Am.splice, Am.enterN, Am.freshMem, Am.cA, Am.cB, Am.cK, Am.cL, Am.cS, Am.cT, Am.cE, Am.aresults, Am.aresult, Am.codeKey, Am.frzTop, Am.spliceP, Nat.reduceAdd, Nat.reduceLeDiff, Nat.reduceBEq, Nat.reduceEqDiff, reduceIte, reduceCtorEq, Nat.reduceSub, Int.reduceBEq, Int.reduceSub, Int.reduceAdd, Int.reduceToNat, Int.reduceLT, Int.reduceLE, Int.reduceEq, Int.reduceNeg, Int.reduceBNe, Int.reduceGT, Int.reduceGE, Nat.reduceMul, Nat.reduceMod, Nat.reduceDiv]
  first | done | rfl
def cmpI (a b : Int) : Int := if a < b then -1 else if a > b then 1 else 0
theorem isNaN_ok (n : Int) : RR 119 [.pv (.int .i64 n)] [] = some (.pv (.bool false), []) := by
  apply isNaN_r
  have h : (n != n) = false := by simp
  simp only [isNaN_b, isNaN_h, isNaN_rs, Try.f119, h, F.EVT, Am.splice, Am.enterN, Am.freshMem, Am.cA, Am.cB, Am.cK, Am.cL, Am.cS, Am.cT, Am.cE, Am.aresults, Am.aresult, Am.codeKey, Am.frzTop, Am.spliceP, Nat.reduceAdd, Nat.reduceLeDiff, Nat.reduceBEq, Nat.reduceEqDiff, reduceIte, reduceCtorEq, Nat.reduceSub, Int.reduceBEq, Int.reduceSub, Int.reduceAdd, Int.reduceToNat, Int.reduceLT, Int.reduceLE, Int.reduceEq, Int.reduceNeg, Int.reduceBNe, Int.reduceGT, Int.reduceGE, Nat.reduceMul, Nat.reduceMod, Nat.reduceDiv]
theorem cmpCompare_ok (a b : Int) : RR 106 [.pv (.int .i64 a), .pv (.int .i64 b)] [] = some (.pv (.int .i64 (cmpI a b)), []) := by
  apply cmpCompare_r
  unfold cmpI
  by_cases h : a < b
  · simp only [cmpCompare_b, cmpCompare_h, cmpCompare_rs, Try.f106, isNaN_ok, h, F.EVT, Am.splice, Am.enterN, Am.freshMem, Am.cA, Am.cB, Am.cK, Am.cL, Am.cS, Am.cT, Am.cE, Am.aresults, Am.aresult, Am.codeKey, Am.frzTop, Am.spliceP, Nat.reduceAdd, Nat.reduceLeDiff, Nat.reduceBEq, Nat.reduceEqDiff, reduceIte, reduceCtorEq, Nat.reduceSub, Int.reduceBEq, Int.reduceSub, Int.reduceAdd, Int.reduceToNat, Int.reduceLT, Int.reduceLE, Int.reduceEq, Int.reduceNeg, Int.reduceBNe, Int.reduceGT, Int.reduceGE, Nat.reduceMul, Nat.reduceMod, Nat.reduceDiv]
  · by_cases h' : a > b
    · simp only [cmpCompare_b, cmpCompare_h, cmpCompare_rs, Try.f106, isNaN_ok, h, h', F.EVT, Am.splice, Am.enterN, Am.freshMem, Am.cA, Am.cB, Am.cK, Am.cL, Am.cS, Am.cT, Am.cE, Am.aresults, Am.aresult, Am.codeKey, Am.frzTop, Am.spliceP, Nat.reduceAdd, Nat.reduceLeDiff, Nat.reduceBEq, Nat.reduceEqDiff, reduceIte, reduceCtorEq, Nat.reduceSub, Int.reduceBEq, Int.reduceSub, Int.reduceAdd, Int.reduceToNat, Int.reduceLT, Int.reduceLE, Int.reduceEq, Int.reduceNeg, Int.reduceBNe, Int.reduceGT, Int.reduceGE, Nat.reduceMul, Nat.reduceMod, Nat.reduceDiv]
    · simp only [cmpCompare_b, cmpCompare_h, cmpCompare_rs, Try.f106, isNaN_ok, h, h', F.EVT, Am.splice, Am.enterN, Am.freshMem, Am.cA, Am.cB, Am.cK, Am.cL, Am.cS, Am.cT, Am.cE, Am.aresults, Am.aresult, Am.codeKey, Am.frzTop, Am.spliceP, Nat.reduceAdd, Nat.reduceLeDiff, Nat.reduceBEq, Nat.reduceEqDiff, reduceIte, reduceCtorEq, Nat.reduceSub, Int.reduceBEq, Int.reduceSub, Int.reduceAdd, Int.reduceToNat, Int.reduceLT, Int.reduceLE, Int.reduceEq, Int.reduceNeg, Int.reduceBNe, Int.reduceGT, Int.reduceGE, Nat.reduceMul, Nat.reduceMod, Nat.reduceDiv]
theorem strCompare_ok (a b : ByteArray) : RR 107 [.pv (.str a), .pv (.str b)] [] = some (.pv (.int .i64 (Lib.compareBytes a.data.toList b.data.toList)), []) := by
  apply strCompare_r
  have := cmp_r a b
  have h' : callable PP 120 = true := by kernel_rfl
  simp only [strCompare_b, strCompare_h, strCompare_rs, Try.f107, show RR 120 [.pv (.str a), .pv (.str b)] [] = _ from cmp_r a b, h', F.EVT, Am.splice, Am.enterN, Am.freshMem, Am.cA, Am.cB, Am.cK, Am.cL, Am.cS, Am.cT, Am.cE, Am.aresults, Am.aresult, Am.codeKey, Am.frzTop, Am.spliceP, Nat.reduceAdd, Nat.reduceLeDiff, Nat.reduceBEq, Nat.reduceEqDiff, reduceIte, reduceCtorEq, Nat.reduceSub, Int.reduceBEq, Int.reduceSub, Int.reduceAdd, Int.reduceToNat, Int.reduceLT, Int.reduceLE, Int.reduceEq, Int.reduceNeg, Int.reduceBNe, Int.reduceGT, Int.reduceGE, Nat.reduceMul, Nat.reduceMod, Nat.reduceDiv]
def firstNZ : List Int → Int
  | [] => 0
  | x :: xs => if x = 0 then firstNZ xs else x
theorem cmpOr_loop {l : List Int} (hn : l.length ≤ 1000000000) {m : Mem} {k : St → Out} (hk : leaveR PP cmpOr_rs 0 (k ((cmpOr_t3 (I 0) (.pv (.slc (ints l))) (I l.length) (I l.length) [⟨[], []⟩]).put (some 9) (B false))) = some (I 0, [])) : ∀ (xs : List Int) (i : Nat) (st : St), l.drop i = xs → i ≤ l.length →
    St.forget (cmpOr_h.at 3) st = cmpOr_t3 (I 0) (.pv (.slc (ints l))) (I l.length) (I i) [⟨[], []⟩] → leaveR PP cmpOr_rs 0 (thenC (blockC 0 (cmpOr_L 3 st)) k) = some (I (firstNZ xs), [])
  | [], i, st, h, hle, hst => by
    have he : i = l.length := by have := drop_nil' h; omega
    subst he
    rw [cmpOr_q3, hst]
    rw [cmpOr_e3]; simp only [cmpOr_k3, cmpOr_l3, cmpOr_b, cmpOr_rs, Try.f105, Int.lt_irrefl, F.EVT, Am.splice, Am.enterN, Am.freshMem, Am.cA, Am.cB, Am.cK, Am.cL, Am.cS, Am.cT, Am.cE, Am.aresults, Am.aresult, Am.codeKey, Am.frzTop, Am.spliceP, Nat.reduceAdd, Nat.reduceLeDiff, Nat.reduceBEq, Nat.reduceEqDiff, reduceIte, reduceCtorEq, Nat.reduceSub, Int.reduceBEq, Int.reduceSub, Int.reduceAdd, Int.reduceToNat, Int.reduceLT, Int.reduceLE, Int.reduceEq, Int.reduceNeg, Int.reduceBNe, Int.reduceGT, Int.reduceGE, Nat.reduceMul, Nat.reduceMod, Nat.reduceDiv]
    exact hk
  | x :: xs, i, st, h, hle, hst => by
    obtain ⟨hlt, hi, hd⟩ := drop_cons h
    have hlt' : (i : Int) < l.length := by omega
    rw [cmpOr_q3, hst]
    by_cases hx : x = 0
    · subst hx
      rw [cmpOr_e3]; simp only [cmpOr_k3, cmpOr_l3, cmpOr_b, cmpOr_rs, Try.f105, index_I hi, hlt', wrap_succ hlt hn, bne_self_eq_false, F.EVT, Am.splice, Am.enterN, Am.freshMem, Am.cA, Am.cB, Am.cK, Am.cL, Am.cS, Am.cT, Am.cE, Am.aresults, Am.aresult, Am.codeKey, Am.frzTop, Am.spliceP, Nat.reduceAdd, Nat.reduceLeDiff, Nat.reduceBEq, Nat.reduceEqDiff, reduceIte, reduceCtorEq, Nat.reduceSub, Int.reduceBEq, Int.reduceSub, Int.reduceAdd, Int.reduceToNat, Int.reduceLT, Int.reduceLE, Int.reduceEq, Int.reduceNeg, Int.reduceBNe, Int.reduceGT, Int.reduceGE, Nat.reduceMul, Nat.reduceMod, Nat.reduceDiv]
      refine (cmpOr_loop hn (m := m) hk xs (i + 1) _ hd hlt (by kernel_rfl)).trans ?_
      simp [firstNZ]
    · have hx' : (x != 0) = true := by simpa using hx
      rw [cmpOr_e3]; simp only [cmpOr_k3, cmpOr_l3, cmpOr_b, cmpOr_rs, Try.f105, index_I hi, hlt', hx', F.EVT, Am.splice, Am.enterN, Am.freshMem, Am.cA, Am.cB, Am.cK, Am.cL, Am.cS, Am.cT, Am.cE, Am.aresults, Am.aresult, Am.codeKey, Am.frzTop, Am.spliceP, Nat.reduceAdd, Nat.reduceLeDiff, Nat.reduceBEq, Nat.reduceEqDiff, reduceIte, reduceCtorEq, Nat.reduceSub, Int.reduceBEq, Int.reduceSub, Int.reduceAdd, Int.reduceToNat, Int.reduceLT, Int.reduceLE, Int.reduceEq, Int.reduceNeg, Int.reduceBNe, Int.reduceGT, Int.reduceGE, Nat.reduceMul, Nat.reduceMod, Nat.reduceDiv]
      simp [firstNZ, hx]
theorem cmpOr_ok (l : List Int) (hn : l.length ≤ 1000000000) : RR 105 [.pv (.slc (ints l))] [] = some (I (firstNZ l), []) := by
  apply cmpOr_r
  simp only [cmpOr_b, cmpOr_h, cmpOr_rs, Try.f105, F.EVT, Am.splice, Am.enterN, Am.freshMem, Am.cA, Am.cB, Am.cK, Am.cL, Am.cS, Am.cT, Am.cE, Am.aresults, Am.aresult, Am.codeKey, Am.frzTop, Am.spliceP, Nat.reduceAdd, Nat.reduceLeDiff, Nat.reduceBEq, Nat.reduceEqDiff, reduceIte, reduceCtorEq, Nat.reduceSub, Int.reduceBEq, Int.reduceSub, Int.reduceAdd, Int.reduceToNat, Int.reduceLT, Int.reduceLE, Int.reduceEq, Int.reduceNeg, Int.reduceBNe, Int.reduceGT, Int.reduceGE, Nat.reduceMul, Nat.reduceMod, Nat.reduceDiv]
  refine cmpOr_loop hn (m := ⟨[], []⟩) ?_ l 0 _ rfl (Nat.zero_le _) (by simp only [ints, List.length_map]; kernel_rfl)
  simp only [cmpOr_b, cmpOr_h, cmpOr_rs, Try.f105, F.EVT, Am.splice, Am.enterN, Am.freshMem, Am.cA, Am.cB, Am.cK, Am.cL, Am.cS, Am.cT, Am.cE, Am.aresults, Am.aresult, Am.codeKey, Am.frzTop, Am.spliceP, Nat.reduceAdd, Nat.reduceLeDiff, Nat.reduceBEq, Nat.reduceEqDiff, reduceIte, reduceCtorEq, Nat.reduceSub, Int.reduceBEq, Int.reduceSub, Int.reduceAdd, Int.reduceToNat, Int.reduceLT, Int.reduceLE, Int.reduceEq, Int.reduceNeg, Int.reduceBNe, Int.reduceGT, Int.reduceGE, Nat.reduceMul, Nat.reduceMod, Nat.reduceDiv]
theorem vbeq_self (v : V) : v.beq v = true := by unfold V.beq; simp
end Go.Proofs.Ytjbmdfdgeioecaa.X
