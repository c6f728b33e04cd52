/- Sameness of any two expressions, by the code and by the answer of the document. -/
import Derived.Test.YtjbmdfdgeioecaaN26
import Derived.Test.YtjbmdfdgeioecaaN34
namespace Go.Proofs.Ytjbmdfdgeioecaa.X
open Go.Proofs.Ytjbmdfdgeioecaa.Am Go.Proofs.Ytjbmdfdgeioecaa.F
set_option linter.unusedVariables false
set_option linter.unusedSimpArgs false
set_option maxRecDepth 100000
set_option maxHeartbeats 1000000
mutual
def sameE : E → E → Bool
  | .mk o n s a, .mk o' n' s' a' => (o == o') && ((n == n') && ((s.toList == s'.toList) && (decide (a.length = a'.length) && sameL a a')))
def sameL : List E → List E → Bool
  | a :: es, b :: fs => sameE a b && sameL es fs
  | _, _ => true
end
theorem sameE_eq (e f : E) : sameE e f = ((e.op == f.op) && ((e.n == f.n) && ((e.s.toList == f.s.toList) && (decide (e.args.length = f.args.length) && sameL e.args f.args)))) := by cases e; cases f; simp only [sameE, E.op, E.n, E.s, E.args]; rfl
mutual
theorem sameE_refl : ∀ e : E, sameE e e = true
  | .mk o n s a => by simp only [sameE, beq_self_eq_true, decide_true, Bool.true_and]; exact sameL_refl a
theorem sameL_refl : ∀ l : List E, sameL l l = true
  | [] => rfl
  | a :: l => by simp only [sameL, sameE_refl a, sameL_refl l, Bool.and_self]
end
mutual
theorem sameE_iff : ∀ e f : E, sameE e f = true → e = f
  | .mk o n s a, .mk o' n' s' a', h => by
    simp only [sameE, Bool.and_eq_true, beq_iff_eq, decide_eq_true_eq] at h
    obtain ⟨rfl, rfl, h3, h4, h5⟩ := h
    have : s = s' := by
      rw [ByteArray.toList_eq, ByteArray.toList_eq] at h3
      cases s; cases s'
      congr 1
      exact Array.toList_inj.mp h3
    rw [this, sameL_iff a a' h4 h5]
theorem sameL_iff : ∀ l m : List E, l.length = m.length → sameL l m = true → l = m
  | [], [], _, _ => rfl
  | [], _ :: _, h, _ => by simp at h
  | _ :: _, [], h, _ => by simp at h
  | a :: l, b :: m, h, hs => by
    simp only [sameL, Bool.and_eq_true] at hs
    rw [sameE_iff a b hs.1, sameL_iff l m (by simpa using h) hs.2]
end
theorem ne_len {a b : Nat} (h : a ≠ b) : ((a : Int) != (b : Int)) = true := by rw [bne_iff_ne]; omega
theorem eq_len {a b : Nat} (h : a = b) : ((a : Int) != (b : Int)) = false := by rw [h]; exact bne_self_eq_false _
theorem rSameG_loop {e f : E} (hlen : e.args.length = f.args.length) (hn : e.args.length ≤ 1000000) (hl : ∀ a ∈ e.args, ∀ b : E, RR 23 [a.av, b.av] [] = some (B (sameE a b), [])) : ∀ (xs ys : List E) (i : Nat) (st : St), e.args.drop i = xs → f.args.drop i = ys → i ≤ e.args.length →
    St.forget (rSame_h.at 4) st = rSame_t4 (.ptr none 2 0) (.ptr none 3 0) (I i) [⟨[(2, emem e), (3, emem f)], []⟩] → leaveR PP rSame_rs 0 (thenC (blockC 0 (rSame_L 4 st)) (acodeX PP RR [] rSame_L rSame_k4)) = some (B (sameL xs ys), [])
  | [], ys, i, st, h, h', hle, hst => by
    have he : i = e.args.length := by have := drop_nil' h; omega
    subst he
    rw [rSame_q4, hst, show sameL [] ys = true by cases ys <;> rfl]
    rw [rSame_e4]; simp only [rSame_k4, rSame_l4, rSame_b, rSame_rs, Try.f23, Int.lt_irrefl, F.EVT, Am.splice, Am.enterN, Am.freshMem, Am.cA, Am.cB, Am.cK, Am.cL, Am.cS, Am.cT, Am.cE, Am.aresults, Am.aresult, Am.codeKey, Am.frzTop, Am.spliceP, Nat.reduceAdd, Nat.reduceLeDiff, Nat.reduceBEq, Nat.reduceEqDiff, reduceIte, reduceCtorEq, Nat.reduceSub, Int.reduceBEq, Int.reduceSub, Int.reduceAdd, Int.reduceToNat, Int.reduceLT, Int.reduceLE, Int.reduceEq, Int.reduceNeg, Int.reduceBNe, Int.reduceGT, Int.reduceGE, Nat.reduceMul, Nat.reduceMod, Nat.reduceDiv]
    try rfl
  | x :: xs, [], i, st, h, h', hle, hst => by
    have h1 := (drop_cons h).1
    have h2 := drop_nil' h'
    omega
  | x :: xs, y :: ys, i, st, h, h', hle, hst => by
    obtain ⟨hlt, hi, hd⟩ := drop_cons h
    obtain ⟨_, hi', hd'⟩ := drop_cons h'
    have hlt' : (i : Int) < e.args.length := by omega
    have hx := hl x (List.mem_of_getElem? hi) y
    simp only [E.av] at hx
    rw [rSame_q4, hst, show sameL (x :: xs) (y :: ys) = (sameE x y && sameL xs ys) by simp only [sameL]]
    cases hs : sameE x y
    · rw [hs] at hx
      rw [Bool.false_and]
      rw [rSame_e4]; simp only [rSame_l4, rSame_b, rSame_rs, Try.f23, index_E hi, index_E hi', hlt', hx, F.EVT, Am.splice, Am.enterN, Am.freshMem, Am.cA, Am.cB, Am.cK, Am.cL, Am.cS, Am.cT, Am.cE, Am.aresults, Am.aresult, Am.codeKey, Am.frzTop, Am.spliceP, Nat.reduceAdd, Nat.reduceLeDiff, Nat.reduceBEq, Nat.reduceEqDiff, reduceIte, reduceCtorEq, Nat.reduceSub, Int.reduceBEq, Int.reduceSub, Int.reduceAdd, Int.reduceToNat, Int.reduceLT, Int.reduceLE, Int.reduceEq, Int.reduceNeg, Int.reduceBNe, Int.reduceGT, Int.reduceGE, Nat.reduceMul, Nat.reduceMod, Nat.reduceDiv]
      try rfl
    · rw [hs] at hx
      rw [Bool.true_and]
      rw [rSame_e4]; simp only [rSame_l4, rSame_b, rSame_rs, Try.f23, index_E hi, index_E hi', hlt', hx, wrapS hlt (show e.args.length ≤ LIM by simp only [LIM]; omega), F.EVT, Am.splice, Am.enterN, Am.freshMem, Am.cA, Am.cB, Am.cK, Am.cL, Am.cS, Am.cT, Am.cE, Am.aresults, Am.aresult, Am.codeKey, Am.frzTop, Am.spliceP, Nat.reduceAdd, Nat.reduceLeDiff, Nat.reduceBEq, Nat.reduceEqDiff, reduceIte, reduceCtorEq, Nat.reduceSub, Int.reduceBEq, Int.reduceSub, Int.reduceAdd, Int.reduceToNat, Int.reduceLT, Int.reduceLE, Int.reduceEq, Int.reduceNeg, Int.reduceBNe, Int.reduceGT, Int.reduceGE, Nat.reduceMul, Nat.reduceMod, Nat.reduceDiv]
      exact rSameG_loop hlen hn hl xs ys (i + 1) _ hd hd' hlt (by kernel_rfl)
theorem rSameG_ok : ∀ (e : E), parts e ≤ 1000000 → ∀ f : E, RR 23 [e.av, f.av] [] = some (B (sameE e f), []) := by
  apply E.ind
  intro e ih hp f
  rw [parts_eq] at hp
  have hn : e.args.length ≤ 1000000 := by have := partsL_len e.args; omega
  rw [sameE_eq]
  apply rSame_r
  cases h1 : (e.op == f.op)
  · have h1' : (e.op != f.op) = true := by simp only [bne, h1, Bool.not_false]
    rw [Bool.false_and]
    simp only [av_e e, av_e f]
    simp only [rSame_b, rSame_h, rSame_rs, Try.f23, h1', F.EVT, Am.splice, Am.enterN, Am.freshMem, Am.cA, Am.cB, Am.cK, Am.cL, Am.cS, Am.cT, Am.cE, Am.aresults, Am.aresult, Am.codeKey, Am.frzTop, Am.spliceP, Nat.reduceAdd, Nat.reduceLeDiff, Nat.reduceBEq, Nat.reduceEqDiff, reduceIte, reduceCtorEq, Nat.reduceSub, Int.reduceBEq, Int.reduceSub, Int.reduceAdd, Int.reduceToNat, Int.reduceLT, Int.reduceLE, Int.reduceEq, Int.reduceNeg, Int.reduceBNe, Int.reduceGT, Int.reduceGE, Nat.reduceMul, Nat.reduceMod, Nat.reduceDiv]
    try rfl
  have h1' : (e.op != f.op) = false := by simp only [bne, h1, Bool.not_true]
  cases h2 : (e.n == f.n)
  · have h2' : (e.n != f.n) = true := by simp only [bne, h2, Bool.not_false]
    rw [Bool.true_and, Bool.false_and]
    simp only [av_e e, av_e f]
    simp only [rSame_b, rSame_h, rSame_rs, Try.f23, h1', h2', F.EVT, Am.splice, Am.enterN, Am.freshMem, Am.cA, Am.cB, Am.cK, Am.cL, Am.cS, Am.cT, Am.cE, Am.aresults, Am.aresult, Am.codeKey, Am.frzTop, Am.spliceP, Nat.reduceAdd, Nat.reduceLeDiff, Nat.reduceBEq, Nat.reduceEqDiff, reduceIte, reduceCtorEq, Nat.reduceSub, Int.reduceBEq, Int.reduceSub, Int.reduceAdd, Int.reduceToNat, Int.reduceLT, Int.reduceLE, Int.reduceEq, Int.reduceNeg, Int.reduceBNe, Int.reduceGT, Int.reduceGE, Nat.reduceMul, Nat.reduceMod, Nat.reduceDiv]
    try rfl
  have h2' : (e.n != f.n) = false := by simp only [bne, h2, Bool.not_true]
  cases h3 : (e.s.toList == f.s.toList)
  · rw [Bool.true_and, Bool.true_and, Bool.false_and]
    simp only [av_e e, av_e f]
    simp only [rSame_b, rSame_h, rSame_rs, Try.f23, h1', h2', h3, F.EVT, Am.splice, Am.enterN, Am.freshMem, Am.cA, Am.cB, Am.cK, Am.cL, Am.cS, Am.cT, Am.cE, Am.aresults, Am.aresult, Am.codeKey, Am.frzTop, Am.spliceP, Nat.reduceAdd, Nat.reduceLeDiff, Nat.reduceBEq, Nat.reduceEqDiff, reduceIte, reduceCtorEq, Nat.reduceSub, Int.reduceBEq, Int.reduceSub, Int.reduceAdd, Int.reduceToNat, Int.reduceLT, Int.reduceLE, Int.reduceEq, Int.reduceNeg, Int.reduceBNe, Int.reduceGT, Int.reduceGE, Nat.reduceMul, Nat.reduceMod, Nat.reduceDiv]
    try rfl
  by_cases h4 : e.args.length = f.args.length
  · have hloop := rSameG_loop h4 hn (fun a ha b => ih a ha (by have := partsL_mem ha; omega) b) e.args f.args 0
    have h4' := eq_len h4
    rw [decide_eq_true h4]
    simp only [Bool.true_and]
    generalize sameL e.args f.args = r at hloop
    simp only [av_e e, av_e f]
    simp only [rSame_b, rSame_h, rSame_rs, Try.f23, h1', h2', h3, h4', F.EVT, Am.splice, Am.enterN, Am.freshMem, Am.cA, Am.cB, Am.cK, Am.cL, Am.cS, Am.cT, Am.cE, Am.aresults, Am.aresult, Am.codeKey, Am.frzTop, Am.spliceP, Nat.reduceAdd, Nat.reduceLeDiff, Nat.reduceBEq, Nat.reduceEqDiff, reduceIte, reduceCtorEq, Nat.reduceSub, Int.reduceBEq, Int.reduceSub, Int.reduceAdd, Int.reduceToNat, Int.reduceLT, Int.reduceLE, Int.reduceEq, Int.reduceNeg, Int.reduceBNe, Int.reduceGT, Int.reduceGE, Nat.reduceMul, Nat.reduceMod, Nat.reduceDiv]
    exact hloop _ rfl rfl (Nat.zero_le _) (by kernel_rfl)
  · have h4' := ne_len h4
    rw [decide_eq_false h4]
    simp only [Bool.true_and, Bool.false_and]
    simp only [av_e e, av_e f]
    simp only [rSame_b, rSame_h, rSame_rs, Try.f23, h1', h2', h3, h4', F.EVT, Am.splice, Am.enterN, Am.freshMem, Am.cA, Am.cB, Am.cK, Am.cL, Am.cS, Am.cT, Am.cE, Am.aresults, Am.aresult, Am.codeKey, Am.frzTop, Am.spliceP, Nat.reduceAdd, Nat.reduceLeDiff, Nat.reduceBEq, Nat.reduceEqDiff, reduceIte, reduceCtorEq, Nat.reduceSub, Int.reduceBEq, Int.reduceSub, Int.reduceAdd, Int.reduceToNat, Int.reduceLT, Int.reduceLE, Int.reduceEq, Int.reduceNeg, Int.reduceBNe, Int.reduceGT, Int.reduceGE, Nat.reduceMul, Nat.reduceMod, Nat.reduceDiv]
    try rfl
/-! ### the code's -/
abbrev fS : AV := .func 36 [] []
theorem eqF_loop {l m : List E} (hlen : l.length = m.length) (hn : l.length ≤ 1000000) (hl : ∀ a ∈ l, ∀ b : E, RR 36 [a.av, b.av] [] = some (B (sameE a b), [])) : ∀ (xs ys : List E) (i : Nat) (st : St), l.drop i = xs → m.drop i = ys → i ≤ l.length →
    St.forget (equalFunc_h.at 4) st = equalFunc_t4 (slE m) fS (slE l) (I l.length) (I i) [⟨[], []⟩] → leaveR PP equalFunc_rs 0 (thenC (blockC 0 (equalFunc_L 4 st)) (acodeX PP RR [] equalFunc_L equalFunc_k4)) = some (B (sameL xs ys), [])
  | [], ys, i, st, h, h', hle, hst => by
    have he : i = l.length := by have := drop_nil' h; omega
    subst he
    rw [equalFunc_q4, hst, show sameL [] ys = true by cases ys <;> rfl]
    rw [equalFunc_e4]; simp only [equalFunc_k4, equalFunc_l4, equalFunc_b, equalFunc_rs, Try.f64, Int.lt_irrefl, F.EVT, Am.splice, Am.enterN, Am.freshMem, Am.cA, Am.cB, Am.cK, Am.cL, Am.cS, Am.cT, Am.cE, Am.aresults, Am.aresult, Am.codeKey, Am.frzTop, Am.spliceP, Nat.reduceAdd, Nat.reduceLeDiff, Nat.reduceBEq, Nat.reduceEqDiff, reduceIte, reduceCtorEq, Nat.reduceSub, Int.reduceBEq, Int.reduceSub, Int.reduceAdd, Int.reduceToNat, Int.reduceLT, Int.reduceLE, Int.reduceEq, Int.reduceNeg, Int.reduceBNe, Int.reduceGT, Int.reduceGE, Nat.reduceMul, Nat.reduceMod, Nat.reduceDiv]
    try rfl
  | x :: xs, [], i, st, h, h', hle, hst => by
    have h1 := (drop_cons h).1
    have h2 := drop_nil' h'
    omega
  | x :: xs, y :: ys, i, st, h, h', hle, hst => by
    obtain ⟨hlt, hi, hd⟩ := drop_cons h
    obtain ⟨_, hi', hd'⟩ := drop_cons h'
    have hlt' : (i : Int) < l.length := by omega
    have hx := hl x (List.mem_of_getElem? hi) y
    simp only [E.av] at hx
    rw [equalFunc_q4, hst, show sameL (x :: xs) (y :: ys) = (sameE x y && sameL xs ys) by simp only [sameL]]
    cases hs : sameE x y
    · rw [hs] at hx
      rw [Bool.false_and]
      rw [equalFunc_e4]; simp only [equalFunc_l4, equalFunc_b, equalFunc_rs, Try.f64, index_E hi, index_E hi', hlt', hx, F.EVT, Am.splice, Am.enterN, Am.freshMem, Am.cA, Am.cB, Am.cK, Am.cL, Am.cS, Am.cT, Am.cE, Am.aresults, Am.aresult, Am.codeKey, Am.frzTop, Am.spliceP, Nat.reduceAdd, Nat.reduceLeDiff, Nat.reduceBEq, Nat.reduceEqDiff, reduceIte, reduceCtorEq, Nat.reduceSub, Int.reduceBEq, Int.reduceSub, Int.reduceAdd, Int.reduceToNat, Int.reduceLT, Int.reduceLE, Int.reduceEq, Int.reduceNeg, Int.reduceBNe, Int.reduceGT, Int.reduceGE, Nat.reduceMul, Nat.reduceMod, Nat.reduceDiv]
      try rfl
    · rw [hs] at hx
      rw [Bool.true_and]
      rw [equalFunc_e4]; simp only [equalFunc_l4, equalFunc_b, equalFunc_rs, Try.f64, index_E hi, index_E hi', hlt', hx, wrapS hlt (show l.length ≤ LIM by simp only [LIM]; omega), F.EVT, Am.splice, Am.enterN, Am.freshMem, Am.cA, Am.cB, Am.cK, Am.cL, Am.cS, Am.cT, Am.cE, Am.aresults, Am.aresult, Am.codeKey, Am.frzTop, Am.spliceP, Nat.reduceAdd, Nat.reduceLeDiff, Nat.reduceBEq, Nat.reduceEqDiff, reduceIte, reduceCtorEq, Nat.reduceSub, Int.reduceBEq, Int.reduceSub, Int.reduceAdd, Int.reduceToNat, Int.reduceLT, Int.reduceLE, Int.reduceEq, Int.reduceNeg, Int.reduceBNe, Int.reduceGT, Int.reduceGE, Nat.reduceMul, Nat.reduceMod, Nat.reduceDiv]
      exact eqF_loop hlen hn hl xs ys (i + 1) _ hd hd' hlt (by kernel_rfl)
theorem eqF_ok {l m : List E} (hn : l.length ≤ 1000000) (hl : ∀ a ∈ l, ∀ b : E, RR 36 [a.av, b.av] [] = some (B (sameE a b), [])) : RR 64 [slE l, slE m, fS] [] = some (B (decide (l.length = m.length) && sameL l m), []) := by
  apply equalFunc_r
  by_cases h4 : l.length = m.length
  · have hloop := eqF_loop h4 hn hl l m 0
    have h4' := eq_len h4
    rw [decide_eq_true h4, Bool.true_and]
    generalize sameL l m = r at hloop
    simp only [equalFunc_b, equalFunc_h, equalFunc_rs, Try.f64, h4', F.EVT, Am.splice, Am.enterN, Am.freshMem, Am.cA, Am.cB, Am.cK, Am.cL, Am.cS, Am.cT, Am.cE, Am.aresults, Am.aresult, Am.codeKey, Am.frzTop, Am.spliceP, Nat.reduceAdd, Nat.reduceLeDiff, Nat.reduceBEq, Nat.reduceEqDiff, reduceIte, reduceCtorEq, Nat.reduceSub, Int.reduceBEq, Int.reduceSub, Int.reduceAdd, Int.reduceToNat, Int.reduceLT, Int.reduceLE, Int.reduceEq, Int.reduceNeg, Int.reduceBNe, Int.reduceGT, Int.reduceGE, Nat.reduceMul, Nat.reduceMod, Nat.reduceDiv]
    exact hloop _ rfl rfl (Nat.zero_le _) (by kernel_rfl)
  · have h4' := ne_len h4
    rw [decide_eq_false h4, Bool.false_and]
    simp only [equalFunc_b, equalFunc_h, equalFunc_rs, Try.f64, h4', F.EVT, Am.splice, Am.enterN, Am.freshMem, Am.cA, Am.cB, Am.cK, Am.cL, Am.cS, Am.cT, Am.cE, Am.aresults, Am.aresult, Am.codeKey, Am.frzTop, Am.spliceP, Nat.reduceAdd, Nat.reduceLeDiff, Nat.reduceBEq, Nat.reduceEqDiff, reduceIte, reduceCtorEq, Nat.reduceSub, Int.reduceBEq, Int.reduceSub, Int.reduceAdd, Int.reduceToNat, Int.reduceLT, Int.reduceLE, Int.reduceEq, Int.reduceNeg, Int.reduceBNe, Int.reduceGT, Int.reduceGE, Nat.reduceMul, Nat.reduceMod, Nat.reduceDiv]
    try rfl
theorem xSame_ok : ∀ (e : E), parts e ≤ 1000000 → ∀ f : E, RR 36 [e.av, f.av] [] = some (B (sameE e f), []) := by
  apply E.ind
  intro e ih hp f
  rw [parts_eq] at hp
  have hn : e.args.length ≤ 1000000 := by have := partsL_len e.args; omega
  have hF := eqF_ok (m := f.args) hn (fun a ha b => ih a ha (by have := partsL_mem ha; omega) b)
  rw [sameE_eq]
  apply xSame_r
  cases h1 : (e.op == f.op)
  · rw [Bool.false_and]
    simp only [av_e e, av_e f]
    simp only [xSame_b, xSame_h, xSame_rs, Try.f36, h1, F.EVT, Am.splice, Am.enterN, Am.freshMem, Am.cA, Am.cB, Am.cK, Am.cL, Am.cS, Am.cT, Am.cE, Am.aresults, Am.aresult, Am.codeKey, Am.frzTop, Am.spliceP, Nat.reduceAdd, Nat.reduceLeDiff, Nat.reduceBEq, Nat.reduceEqDiff, reduceIte, reduceCtorEq, Nat.reduceSub, Int.reduceBEq, Int.reduceSub, Int.reduceAdd, Int.reduceToNat, Int.reduceLT, Int.reduceLE, Int.reduceEq, Int.reduceNeg, Int.reduceBNe, Int.reduceGT, Int.reduceGE, Nat.reduceMul, Nat.reduceMod, Nat.reduceDiv]
    try rfl
  cases h2 : (e.n == f.n)
  · rw [Bool.true_and, Bool.false_and]
    simp only [av_e e, av_e f]
    simp only [xSame_b, xSame_h, xSame_rs, Try.f36, h1, h2, F.EVT, Am.splice, Am.enterN, Am.freshMem, Am.cA, Am.cB, Am.cK, Am.cL, Am.cS, Am.cT, Am.cE, Am.aresults, Am.aresult, Am.codeKey, Am.frzTop, Am.spliceP, Nat.reduceAdd, Nat.reduceLeDiff, Nat.reduceBEq, Nat.reduceEqDiff, reduceIte, reduceCtorEq, Nat.reduceSub, Int.reduceBEq, Int.reduceSub, Int.reduceAdd, Int.reduceToNat, Int.reduceLT, Int.reduceLE, Int.reduceEq, Int.reduceNeg, Int.reduceBNe, Int.reduceGT, Int.reduceGE, Nat.reduceMul, Nat.reduceMod, Nat.reduceDiv]
    try rfl
  cases h3 : (e.s.toList == f.s.toList)
  · rw [Bool.true_and, Bool.true_and, Bool.false_and]
    simp only [av_e e, av_e f]
    simp only [xSame_b, xSame_h, xSame_rs, Try.f36, h1, h2, h3, F.EVT, Am.splice, Am.enterN, Am.freshMem, Am.cA, Am.cB, Am.cK, Am.cL, Am.cS, Am.cT, Am.cE, Am.aresults, Am.aresult, Am.codeKey, Am.frzTop, Am.spliceP, Nat.reduceAdd, Nat.reduceLeDiff, Nat.reduceBEq, Nat.reduceEqDiff, reduceIte, reduceCtorEq, Nat.reduceSub, Int.reduceBEq, Int.reduceSub, Int.reduceAdd, Int.reduceToNat, Int.reduceLT, Int.reduceLE, Int.reduceEq, Int.reduceNeg, Int.reduceBNe, Int.reduceGT, Int.reduceGE, Nat.reduceMul, Nat.reduceMod, Nat.reduceDiv]
    try rfl
  simp only [Bool.true_and]
  generalize (decide (e.args.length = f.args.length) && sameL e.args f.args) = r at hF
  simp only [av_e e, av_e f]
  simp only [xSame_b, xSame_h, xSame_rs, Try.f36, h1, h2, h3, hF, F.EVT, Am.splice, Am.enterN, Am.freshMem, Am.cA, Am.cB, Am.cK, Am.cL, Am.cS, Am.cT, Am.cE, Am.aresults, Am.aresult, Am.codeKey, Am.frzTop, Am.spliceP, Nat.reduceAdd, Nat.reduceLeDiff, Nat.reduceBEq, Nat.reduceEqDiff, reduceIte, reduceCtorEq, Nat.reduceSub, Int.reduceBEq, Int.reduceSub, Int.reduceAdd, Int.reduceToNat, Int.reduceLT, Int.reduceLE, Int.reduceEq, Int.reduceNeg, Int.reduceBNe, Int.reduceGT, Int.reduceGE, Nat.reduceMul, Nat.reduceMod, Nat.reduceDiv]
  try rfl
end Go.Proofs.Ytjbmdfdgeioecaa.X
