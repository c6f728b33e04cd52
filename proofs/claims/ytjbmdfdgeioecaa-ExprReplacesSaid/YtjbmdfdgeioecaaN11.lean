/- Steps, by the answer of the document: the whole. -/
import Derived.Test.YtjbmdfdgeioecaaN9
import Derived.Test.YtjbmdfdgeioecaaN10
namespace Go.Proofs.Ytjbmdfdgeioecaa.X
open Go.Proofs.Ytjbmdfdgeioecaa.Am Go.Proofs.Ytjbmdfdgeioecaa.F
set_option linter.unusedVariables false
set_option linter.unusedSimpArgs false
set_option maxRecDepth 100000
set_option maxHeartbeats 1000000
abbrev rc4 (l : List Int) (e : E) (ks : List Int) (i : Int) : St := rcount_t4 (slI l) (.ptr none 3 0) (I 1) (mkOwn 25 (ints ks)) (I i) [⟨[(3, emem e)], [(25, rowT (ints ks) 1)]⟩]
theorem rcount_end {l : List Int} {e : E} {ks : List Int} (hl : ∀ x ∈ l, CapI x) (hk : ∀ k ∈ ks, CapI k) (hts : ks.length = e.args.length) (hn : ks.length ≤ LIM) :
    leaveR PP rcount_rs 0 (thenC (blockC 0 (rcount_X4 (rc4 l e ks e.args.length))) (acodeX PP RR [] rcount_L rcount_k4)) = some (I (cntOp l ks e.op e.n), []) := by
  by_cases h21 : e.op = 21
  · by_cases h3 : ks.length = 3
    · obtain ⟨a, b, c, rfl⟩ := len3 (l := ks) (by omega)
      have ha := hk a (by simp)
      have hm := mxI_ok (hk b (by simp)) (hk c (by simp))
      unfold CapI at ha hm
      have hm' : IntKind.i64.wrap (1 + a) = 1 + a := wrap_ok (by omega) (by omega)
      have hw : IntKind.i64.wrap (1 + a + mxI b c) = 1 + a + mxI b c := wrap_ok (by omega) (by omega)
      unfold mxI at hw
      unfold cntOp
      rw [if_pos ⟨h21, h3⟩]
      have hlen : ((ints [a, b, c]).length : Int) = 3 := rfl
      rw [rcount_e4]; simp only [rcount_k4, rcount_l4, rcount_b, rcount_rs, Try.f50, Int.lt_irrefl, ← hts, h21, mk_30, mk_31, mk_32, hm', hw, hlen, List.length_cons, List.length_nil, capM, mxI, F.EVT, Am.splice, Am.enterN, Am.freshMem, Am.cA, Am.cB, Am.cK, Am.cL, Am.cS, Am.cT, Am.cE, Am.aresults, Am.aresult, Am.codeKey, Am.frzTop, Am.spliceP, Nat.reduceAdd, Nat.reduceLeDiff, Nat.reduceBEq, Nat.reduceEqDiff, reduceIte, reduceCtorEq, Nat.reduceSub, Int.reduceBEq, Int.reduceSub, Int.reduceAdd, Int.reduceToNat, Int.reduceLT, Int.reduceLE, Int.reduceEq, Int.reduceNeg, Int.reduceBNe, Int.reduceGT, Int.reduceGE, Nat.reduceMul, Nat.reduceMod, Nat.reduceDiv]
      try rfl
    · have h3' : ((ks.length : Int) == 3) = false := by simp; omega
      generalize hg : cntOp l ks e.op e.n = g
      rw [rcount_e4]; simp only [rcount_l4, rcount_b, rcount_rs, Try.f50, Int.lt_irrefl, ← hts, F.EVT, Am.splice, Am.enterN, Am.freshMem, Am.cA, Am.cB, Am.cK, Am.cL, Am.cS, Am.cT, Am.cE, Am.aresults, Am.aresult, Am.codeKey, Am.frzTop, Am.spliceP, Nat.reduceAdd, Nat.reduceLeDiff, Nat.reduceBEq, Nat.reduceEqDiff, reduceIte, reduceCtorEq, Nat.reduceSub, Int.reduceBEq, Int.reduceSub, Int.reduceAdd, Int.reduceToNat, Int.reduceLT, Int.reduceLE, Int.reduceEq, Int.reduceNeg, Int.reduceBNe, Int.reduceGT, Int.reduceGE, Nat.reduceMul, Nat.reduceMod, Nat.reduceDiv]
      simp only [rcount_k4, rcount_b, rcount_rs, Try.f50, h21, ints_len, h3', F.EVT, Am.splice, Am.enterN, Am.freshMem, Am.cA, Am.cB, Am.cK, Am.cL, Am.cS, Am.cT, Am.cE, Am.aresults, Am.aresult, Am.codeKey, Am.frzTop, Am.spliceP, Nat.reduceAdd, Nat.reduceLeDiff, Nat.reduceBEq, Nat.reduceEqDiff, reduceIte, reduceCtorEq, Nat.reduceSub, Int.reduceBEq, Int.reduceSub, Int.reduceAdd, Int.reduceToNat, Int.reduceLT, Int.reduceLE, Int.reduceEq, Int.reduceNeg, Int.reduceBNe, Int.reduceGT, Int.reduceGE, Nat.reduceMul, Nat.reduceMod, Nat.reduceDiv]
      rw [← hg]
      exact rcount_10 (e := e) hl hk hn (fun q => h3 q.2) ks 0 1 _ rfl (Nat.zero_le _) ⟨by omega, by omega⟩ rfl (by delta rc10; generalize ints ks = E; cases E <;> kernel_rfl)
  · rw [rcount_e4]; simp only [rcount_l4, rcount_b, rcount_rs, Try.f50, Int.lt_irrefl, ← hts, F.EVT, Am.splice, Am.enterN, Am.freshMem, Am.cA, Am.cB, Am.cK, Am.cL, Am.cS, Am.cT, Am.cE, Am.aresults, Am.aresult, Am.codeKey, Am.frzTop, Am.spliceP, Nat.reduceAdd, Nat.reduceLeDiff, Nat.reduceBEq, Nat.reduceEqDiff, reduceIte, reduceCtorEq, Nat.reduceSub, Int.reduceBEq, Int.reduceSub, Int.reduceAdd, Int.reduceToNat, Int.reduceLT, Int.reduceLE, Int.reduceEq, Int.reduceNeg, Int.reduceBNe, Int.reduceGT, Int.reduceGE, Nat.reduceMul, Nat.reduceMod, Nat.reduceDiv]
    simp only [rcount_k4, rcount_b, rcount_rs, Try.f50, beq_no h21, ints_len, F.EVT, Am.splice, Am.enterN, Am.freshMem, Am.cA, Am.cB, Am.cK, Am.cL, Am.cS, Am.cT, Am.cE, Am.aresults, Am.aresult, Am.codeKey, Am.frzTop, Am.spliceP, Nat.reduceAdd, Nat.reduceLeDiff, Nat.reduceBEq, Nat.reduceEqDiff, reduceIte, reduceCtorEq, Nat.reduceSub, Int.reduceBEq, Int.reduceSub, Int.reduceAdd, Int.reduceToNat, Int.reduceLT, Int.reduceLE, Int.reduceEq, Int.reduceNeg, Int.reduceBNe, Int.reduceGT, Int.reduceGE, Nat.reduceMul, Nat.reduceMod, Nat.reduceDiv]
    exact rcount_10 (e := e) hl hk hn (fun q => h21 q.1) ks 0 1 _ rfl (Nat.zero_le _) ⟨by omega, by omega⟩ rfl (by delta rc10; generalize ints ks = E; cases E <;> kernel_rfl)
theorem rcount_loop {l : List Int} {e : E} (hl : ∀ x ∈ l, CapI x) (hr : ∀ a ∈ e.args, RR 50 [slI l, a.av] [] = some (I (cnt l a), [])) (hn : e.args.length ≤ 1000000) : ∀ (xs : List E) (i : Nat) (ks : List Int) (st : St), e.args.drop i = xs → i ≤ e.args.length → ks.length = i → ks ++ cntL l xs = cntL l e.args →
    St.forget (rcount_h.at 4) st = rc4 l e ks i → leaveR PP rcount_rs 0 (thenC (blockC 0 (rcount_L 4 st)) (acodeX PP RR [] rcount_L rcount_k4)) = some (I (cnt l e), [])
  | [], i, ks, st, h, hle, hts, hk, hst => by
    have he : i = e.args.length := by have := drop_nil' h; omega
    subst he
    rw [rcount_q4, hst, cnt_eq, ← hk]
    simp only [cntL, List.append_nil] at hk ⊢
    exact rcount_end hl (by rw [hk]; exact cntL_ok hl _) hts (by simp only [LIM]; omega)
  | x :: xs, i, ks, st, h, hle, hts, hk, hst => by
    obtain ⟨hlt, hi, hd⟩ := drop_cons h
    have hlt' : (i : Int) < e.args.length := by omega
    have hx := hr x (List.mem_of_getElem? hi)
    simp only [E.av] at hx
    have hb : ((ints ks).length + 1) * 8 ≤ 140737488355328 := by rw [ints_len]; omega
    have hap : ints ks ++ [.int .i64 (cnt l x)] = ints (ks ++ [cnt l x]) := by simp [ints]
    rw [rcount_q4, hst]
    rw [rcount_e4]; simp only [rcount_l4, rcount_b, rcount_rs, Try.f50, index_E hi, hlt', hx, hb, hap, wrapS hlt (show e.args.length ≤ LIM by simp only [LIM]; omega), F.EVT, Am.splice, Am.enterN, Am.freshMem, Am.cA, Am.cB, Am.cK, Am.cL, Am.cS, Am.cT, Am.cE, Am.aresults, Am.aresult, Am.codeKey, Am.frzTop, Am.spliceP, Nat.reduceAdd, Nat.reduceLeDiff, Nat.reduceBEq, Nat.reduceEqDiff, reduceIte, reduceCtorEq, Nat.reduceSub, Int.reduceBEq, Int.reduceSub, Int.reduceAdd, Int.reduceToNat, Int.reduceLT, Int.reduceLE, Int.reduceEq, Int.reduceNeg, Int.reduceBNe, Int.reduceGT, Int.reduceGE, Nat.reduceMul, Nat.reduceMod, Nat.reduceDiv]
    exact rcount_loop hl hr hn xs (i + 1) (ks ++ [cnt l x]) _ hd hlt (by simp [hts]) (by rw [← hk]; simp [cntL]) (by delta rc4; generalize ints (ks ++ [cnt l x]) = E; cases E <;> kernel_rfl)
theorem rcount_ok {l : List Int} (hl : ∀ x ∈ l, CapI x) : ∀ e : E, parts e ≤ 1000000 → RR 50 [slI l, e.av] [] = some (I (cnt l e), []) := by
  apply E.ind
  intro e ih hp
  rw [parts_eq] at hp
  have hn : e.args.length ≤ 1000000 := by have := partsL_len e.args; omega
  have hloop := rcount_loop hl (fun a ha => ih a ha (by have := partsL_mem ha; omega)) hn e.args 0 []
  apply rcount_r
  simp only [rcount_b, rcount_h, rcount_rs, Try.f50, E.av, F.EVT, Am.splice, Am.enterN, Am.freshMem, Am.cA, Am.cB, Am.cK, Am.cL, Am.cS, Am.cT, Am.cE, Am.aresults, Am.aresult, Am.codeKey, Am.frzTop, Am.spliceP, Nat.reduceAdd, Nat.reduceLeDiff, Nat.reduceBEq, Nat.reduceEqDiff, reduceIte, reduceCtorEq, Nat.reduceSub, Int.reduceBEq, Int.reduceSub, Int.reduceAdd, Int.reduceToNat, Int.reduceLT, Int.reduceLE, Int.reduceEq, Int.reduceNeg, Int.reduceBNe, Int.reduceGT, Int.reduceGE, Nat.reduceMul, Nat.reduceMod, Nat.reduceDiv]
  exact hloop _ rfl (Nat.zero_le _) rfl rfl (by kernel_rfl)
def bodiesL (l : List Int) : List Fn → List Int
  | [] => l
  | f :: fs => bodiesL (l ++ [cnt l f.body]) fs
def stepsOf (fs : List Fn) (e : E) : Int := cnt (bodiesL [] fs) e
theorem bodiesL_ok : ∀ (fs : List Fn) (l : List Int), (∀ x ∈ l, CapI x) → ∀ x ∈ bodiesL l fs, CapI x
  | [], l, h => h
  | f :: fs, l, h => bodiesL_ok fs _ (by
    intro x hx
    rcases List.mem_append.1 hx with hx | hx
    · exact h x hx
    · simp only [List.mem_singleton] at hx; subst hx; exact cnt_ok h _)
abbrev rs3 (fs : List Fn) (e : E) (l : List Int) (i : Int) : St := rSteps_t3 (slF fs) (.ptr none 3 0) (mkOwn 22 (ints l)) (I i) [⟨[(3, emem e)], [(22, rowT (ints l) 1)]⟩]
theorem rSteps_loop {fs : List Fn} {e : E} (hn : fs.length ≤ 1000000) (hp : parts e ≤ 1000000) (hb : ∀ f ∈ fs, parts f.body ≤ 1000000) : ∀ (xs : List Fn) (i : Nat) (l : List Int) (st : St), fs.drop i = xs → i ≤ fs.length → l.length = i → bodiesL l xs = bodiesL [] fs → (∀ x ∈ l, CapI x) →
    St.forget (rSteps_h.at 3) st = rs3 fs e l i → leaveR PP rSteps_rs 0 (thenC (blockC 0 (rSteps_L 3 st)) (acodeX PP RR [] rSteps_L rSteps_k3)) = some (I (stepsOf fs e), [])
  | [], i, l, st, h, hle, hts, hk, hl, hst => by
    have he : i = fs.length := by have := drop_nil' h; omega
    subst he
    have hx := rcount_ok hl e hp
    simp only [E.av] at hx
    rw [rSteps_q3, hst, stepsOf, ← hk]
    simp only [bodiesL]
    rw [rSteps_e3]; simp only [rSteps_k3, rSteps_l3, rSteps_b, rSteps_rs, Try.f25, Int.lt_irrefl, hx, F.EVT, Am.splice, Am.enterN, Am.freshMem, Am.cA, Am.cB, Am.cK, Am.cL, Am.cS, Am.cT, Am.cE, Am.aresults, Am.aresult, Am.codeKey, Am.frzTop, Am.spliceP, Nat.reduceAdd, Nat.reduceLeDiff, Nat.reduceBEq, Nat.reduceEqDiff, reduceIte, reduceCtorEq, Nat.reduceSub, Int.reduceBEq, Int.reduceSub, Int.reduceAdd, Int.reduceToNat, Int.reduceLT, Int.reduceLE, Int.reduceEq, Int.reduceNeg, Int.reduceBNe, Int.reduceGT, Int.reduceGE, Nat.reduceMul, Nat.reduceMod, Nat.reduceDiv]
    try rfl
  | x :: xs, i, l, st, h, hle, hts, hk, hl, hst => by
    obtain ⟨hlt, hi, hd⟩ := drop_cons h
    have hlt' : (i : Int) < fs.length := by omega
    have hx := rcount_ok hl x.body (hb _ (List.mem_of_getElem? hi))
    simp only [E.av] at hx
    have hbb : ((ints l).length + 1) * 8 ≤ 140737488355328 := by rw [ints_len]; omega
    have hap : ints l ++ [.int .i64 (cnt l x.body)] = ints (l ++ [cnt l x.body]) := by simp [ints]
    rw [rSteps_q3, hst]
    rw [rSteps_e3]; simp only [rSteps_l3, rSteps_b, rSteps_rs, Try.f25, index_F hi, hlt', hx, hbb, hap, wrapS hlt (show fs.length ≤ LIM by simp only [LIM]; omega), F.EVT, Am.splice, Am.enterN, Am.freshMem, Am.cA, Am.cB, Am.cK, Am.cL, Am.cS, Am.cT, Am.cE, Am.aresults, Am.aresult, Am.codeKey, Am.frzTop, Am.spliceP, Nat.reduceAdd, Nat.reduceLeDiff, Nat.reduceBEq, Nat.reduceEqDiff, reduceIte, reduceCtorEq, Nat.reduceSub, Int.reduceBEq, Int.reduceSub, Int.reduceAdd, Int.reduceToNat, Int.reduceLT, Int.reduceLE, Int.reduceEq, Int.reduceNeg, Int.reduceBNe, Int.reduceGT, Int.reduceGE, Nat.reduceMul, Nat.reduceMod, Nat.reduceDiv]
    refine rSteps_loop hn hp hb xs (i + 1) (l ++ [cnt l x.body]) _ hd hlt (by simp [hts]) hk ?_ (by delta rs3; generalize ints (l ++ [cnt l x.body]) = E; cases E <;> kernel_rfl)
    intro y hy
    rcases List.mem_append.1 hy with hy | hy
    · exact hl y hy
    · simp only [List.mem_singleton] at hy; subst hy; exact cnt_ok hl _
theorem rSteps_ok {fs : List Fn} {e : E} (hn : fs.length ≤ 1000000) (hp : parts e ≤ 1000000) (hb : ∀ f ∈ fs, parts f.body ≤ 1000000) : RR 25 [slF fs, e.av] [] = some (I (stepsOf fs e), []) := by
  have hloop := rSteps_loop hn hp hb fs 0 []
  apply rSteps_r
  simp only [rSteps_b, rSteps_h, rSteps_rs, Try.f25, E.av, F.EVT, Am.splice, Am.enterN, Am.freshMem, Am.cA, Am.cB, Am.cK, Am.cL, Am.cS, Am.cT, Am.cE, Am.aresults, Am.aresult, Am.codeKey, Am.frzTop, Am.spliceP, Nat.reduceAdd, Nat.reduceLeDiff, Nat.reduceBEq, Nat.reduceEqDiff, reduceIte, reduceCtorEq, Nat.reduceSub, Int.reduceBEq, Int.reduceSub, Int.reduceAdd, Int.reduceToNat, Int.reduceLT, Int.reduceLE, Int.reduceEq, Int.reduceNeg, Int.reduceBNe, Int.reduceGT, Int.reduceGE, Nat.reduceMul, Nat.reduceMod, Nat.reduceDiv]
  exact hloop _ rfl (Nat.zero_le _) rfl rfl (fun x hx => by cases hx) (by kernel_rfl)
theorem fair_parts {fs : List Fn} (h : fairB fs = true) : ∀ f ∈ fs, parts f.body ≤ 1000000 := by
  intro f hf
  unfold fairB at h
  simp only [Bool.and_eq_true] at h
  have h1 := List.all_eq_true.1 h.1 f hf
  unfold fairF at h1
  simp only [Bool.and_eq_true, Bool.not_eq_true', decide_eq_false_iff_not] at h1
  have := light_parts f.body 60 20 (by omega)
  omega
def goodB (fs : List Fn) (e : E) (row : List V) : Bool :=
  fairB fs && (!decide (light e 100 20 < 0) && (fitsB row && ((typeOf fs (kindsOf row) [] e).isSome && decide (stepsOf fs e ≤ 10000))))
end Go.Proofs.Ytjbmdfdgeioecaa.X
