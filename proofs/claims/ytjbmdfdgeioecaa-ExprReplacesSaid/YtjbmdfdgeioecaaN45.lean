/- Sameness; the time, by the answer of the document; its Eval. -/
import Derived.Test.YtjbmdfdgeioecaaN11
namespace Go.Proofs.Ytjbmdfdgeioecaa.X
open Go.Proofs.Ytjbmdfdgeioecaa.Am Go.Proofs.Ytjbmdfdgeioecaa.F
set_option linter.unusedVariables false
set_option linter.unusedSimpArgs false
set_option maxRecDepth 100000
set_option maxHeartbeats 1000000
theorem rSame_loop {e : E} (hn : e.args.length ≤ 1000000) (hl : ∀ a ∈ e.args, RR 23 [a.av, a.av] [] = some (B true, [])) : ∀ (xs : List E) (i : Nat) (st : St), e.args.drop i = xs → i ≤ e.args.length →
    St.forget (rSame_h.at 4) st = rSame_t4 (.ptr none 2 0) (.ptr none 3 0) (I i) [⟨[(2, emem e), (3, emem e)], []⟩] → leaveR PP rSame_rs 0 (thenC (blockC 0 (rSame_L 4 st)) (acodeX PP RR [] rSame_L rSame_k4)) = some (B true, [])
  | [], i, st, h, hle, hst => by
    have he : i = e.args.length := by have := drop_nil' h; omega
    subst he
    rw [rSame_q4, hst]
    rw [rSame_e4]; simp only [rSame_k4, rSame_l4, rSame_b, rSame_rs, Try.f23, Int.lt_irrefl, F.EVT, Am.splice, Am.enterN, Am.freshMem, Am.cA, Am.cB, Am.cK, Am.cL, Am.cS, Am.cT, Am.cE, Am.aresults, Am.aresult, Am.codeKey, Am.frzTop, Am.spliceP, Nat.reduceAdd, Nat.reduceLeDiff, Nat.reduceBEq, Nat.reduceEqDiff, reduceIte, reduceCtorEq, Nat.reduceSub, Int.reduceBEq, Int.reduceSub, Int.reduceAdd, Int.reduceToNat, Int.reduceLT, Int.reduceLE, Int.reduceEq, Int.reduceNeg, Int.reduceBNe, Int.reduceGT, Int.reduceGE, Nat.reduceMul, Nat.reduceMod, Nat.reduceDiv]
    try rfl
  | x :: xs, i, st, h, hle, hst => by
    obtain ⟨hlt, hi, hd⟩ := drop_cons h
    have hlt' : (i : Int) < e.args.length := by omega
    have hx := hl x (List.mem_of_getElem? hi)
    simp only [E.av] at hx
    rw [rSame_q4, hst]
    rw [rSame_e4]; simp only [rSame_l4, rSame_b, rSame_rs, Try.f23, index_E hi, hlt', hx, wrapS hlt (show e.args.length ≤ LIM by simp only [LIM]; omega), F.EVT, Am.splice, Am.enterN, Am.freshMem, Am.cA, Am.cB, Am.cK, Am.cL, Am.cS, Am.cT, Am.cE, Am.aresults, Am.aresult, Am.codeKey, Am.frzTop, Am.spliceP, Nat.reduceAdd, Nat.reduceLeDiff, Nat.reduceBEq, Nat.reduceEqDiff, reduceIte, reduceCtorEq, Nat.reduceSub, Int.reduceBEq, Int.reduceSub, Int.reduceAdd, Int.reduceToNat, Int.reduceLT, Int.reduceLE, Int.reduceEq, Int.reduceNeg, Int.reduceBNe, Int.reduceGT, Int.reduceGE, Nat.reduceMul, Nat.reduceMod, Nat.reduceDiv]
    exact rSame_loop hn hl xs (i + 1) _ hd hlt (by kernel_rfl)
theorem rSame_ok : ∀ e : E, parts e ≤ 1000000 → RR 23 [e.av, e.av] [] = some (B true, []) := by
  apply E.ind
  intro e ih hp
  rw [parts_eq] at hp
  have hn : e.args.length ≤ 1000000 := by have := partsL_len e.args; omega
  have hloop := rSame_loop hn (fun a ha => ih a ha (by have := partsL_mem ha; omega)) e.args 0
  apply rSame_r
  simp only [av_e e]
  simp only [rSame_b, rSame_h, rSame_rs, Try.f23, bne_self_eq_false, beq_self_eq_true, Bool.not_true, F.EVT, Am.splice, Am.enterN, Am.freshMem, Am.cA, Am.cB, Am.cK, Am.cL, Am.cS, Am.cT, Am.cE, Am.aresults, Am.aresult, Am.codeKey, Am.frzTop, Am.spliceP, Nat.reduceAdd, Nat.reduceLeDiff, Nat.reduceBEq, Nat.reduceEqDiff, reduceIte, reduceCtorEq, Nat.reduceSub, Int.reduceBEq, Int.reduceSub, Int.reduceAdd, Int.reduceToNat, Int.reduceLT, Int.reduceLE, Int.reduceEq, Int.reduceNeg, Int.reduceBNe, Int.reduceGT, Int.reduceGE, Nat.reduceMul, Nat.reduceMod, Nat.reduceDiv]
  exact hloop _ rfl (Nat.zero_le _) (by kernel_rfl)
mutual
def timedE (tl : List Bool) : E → Bool | .mk op n _ args => (op == 5) || ((decide (op = 22 ∧ 0 ≤ n ∧ n < tl.length) && tl.getD n.toNat false) || timedL tl args)
def timedL (tl : List Bool) : List E → Bool | [] => false | a :: es => timedE tl a || timedL tl es
end
theorem timedE_eq (tl : List Bool) (e : E) : timedE tl e = ((e.op == 5) || ((decide (e.op = 22 ∧ 0 ≤ e.n ∧ e.n < tl.length) && tl.getD e.n.toNat false) || timedL tl e.args)) := by cases e; simp only [timedE, E.args, E.op, E.n]; rfl
def bols (l : List Bool) : List PV := l.map PV.bool
theorem bols_len (l : List Bool) : (bols l).length = l.length := List.length_map _
theorem index_bol {l : List Bool} {n : Int} {o : Bool} (h0 : 0 ≤ n) (h : l[n.toNat]? = some o) : indexC 1 (.pv (.slc (bols l))) n = some (.eptr [.bool o]) := by
  simp [indexC, AV.slc?, h, h0, bols, PV.cells]
abbrev rtSt (tl : List Bool) (e : E) (i : Int) : St := rtimed_t7 (.pv (.slc (bols tl))) (.ptr none 3 0) (I i) [⟨[(3, emem e)], []⟩]
theorem rtimed_loop {tl : List Bool} {e : E} (hn : e.args.length ≤ 1000000) (hl : ∀ a ∈ e.args, RR 54 [.pv (.slc (bols tl)), a.av] [] = some (B (timedE tl a), [])) : ∀ (xs : List E) (i : Nat) (st : St), e.args.drop i = xs → i ≤ e.args.length →
    St.forget (rtimed_h.at 7) st = rtSt tl e i → leaveR PP rtimed_rs 0 (thenC (blockC 0 (rtimed_L 7 st)) (acodeX PP RR [] rtimed_L rtimed_k7)) = some (B (timedL tl xs), [])
  | [], i, st, h, hle, hst => by
    have he : i = e.args.length := by have := drop_nil' h; omega
    subst he
    rw [rtimed_q7, hst]
    simp only [timedL]
    rw [rtimed_e7]; simp only [rtimed_k7, rtimed_l7, rtimed_b, rtimed_rs, Try.f54, Int.lt_irrefl, F.EVT, Am.splice, Am.enterN, Am.freshMem, Am.cA, Am.cB, Am.cK, Am.cL, Am.cS, Am.cT, Am.cE, Am.aresults, Am.aresult, Am.codeKey, Am.frzTop, Am.spliceP, Nat.reduceAdd, Nat.reduceLeDiff, Nat.reduceBEq, Nat.reduceEqDiff, reduceIte, reduceCtorEq, Nat.reduceSub, Int.reduceBEq, Int.reduceSub, Int.reduceAdd, Int.reduceToNat, Int.reduceLT, Int.reduceLE, Int.reduceEq, Int.reduceNeg, Int.reduceBNe, Int.reduceGT, Int.reduceGE, Nat.reduceMul, Nat.reduceMod, Nat.reduceDiv]
    try rfl
  | x :: xs, i, st, h, hle, hst => by
    obtain ⟨hlt, hi, hd⟩ := drop_cons h
    have hlt' : (i : Int) < e.args.length := by omega
    have hx := hl x (List.mem_of_getElem? hi)
    simp only [E.av] at hx
    rw [rtimed_q7, hst]
    simp only [timedL]
    cases ht : timedE tl x
    · rw [ht] at hx
      rw [Bool.false_or]
      rw [rtimed_e7]; simp only [rtimed_l7, rtimed_b, rtimed_rs, Try.f54, index_E hi, hlt', hx, wrapS hlt (show e.args.length ≤ LIM by simp only [LIM]; omega), F.EVT, Am.splice, Am.enterN, Am.freshMem, Am.cA, Am.cB, Am.cK, Am.cL, Am.cS, Am.cT, Am.cE, Am.aresults, Am.aresult, Am.codeKey, Am.frzTop, Am.spliceP, Nat.reduceAdd, Nat.reduceLeDiff, Nat.reduceBEq, Nat.reduceEqDiff, reduceIte, reduceCtorEq, Nat.reduceSub, Int.reduceBEq, Int.reduceSub, Int.reduceAdd, Int.reduceToNat, Int.reduceLT, Int.reduceLE, Int.reduceEq, Int.reduceNeg, Int.reduceBNe, Int.reduceGT, Int.reduceGE, Nat.reduceMul, Nat.reduceMod, Nat.reduceDiv]
      exact rtimed_loop hn hl xs (i + 1) _ hd hlt (by kernel_rfl)
    · rw [ht] at hx
      rw [Bool.true_or]
      rw [rtimed_e7]; simp only [rtimed_l7, rtimed_b, rtimed_rs, Try.f54, index_E hi, hlt', hx, F.EVT, Am.splice, Am.enterN, Am.freshMem, Am.cA, Am.cB, Am.cK, Am.cL, Am.cS, Am.cT, Am.cE, Am.aresults, Am.aresult, Am.codeKey, Am.frzTop, Am.spliceP, Nat.reduceAdd, Nat.reduceLeDiff, Nat.reduceBEq, Nat.reduceEqDiff, reduceIte, reduceCtorEq, Nat.reduceSub, Int.reduceBEq, Int.reduceSub, Int.reduceAdd, Int.reduceToNat, Int.reduceLT, Int.reduceLE, Int.reduceEq, Int.reduceNeg, Int.reduceBNe, Int.reduceGT, Int.reduceGE, Nat.reduceMul, Nat.reduceMod, Nat.reduceDiv]
      try rfl
theorem rtimed_ok {tl : List Bool} : ∀ e : E, parts e ≤ 1000000 → RR 54 [.pv (.slc (bols tl)), e.av] [] = some (B (timedE tl e), []) := by
  apply E.ind
  intro e ih hp
  rw [parts_eq] at hp
  have hn : e.args.length ≤ 1000000 := by have := partsL_len e.args; omega
  have hloop := rtimed_loop (tl := tl) hn (fun a ha => ih a ha (by have := partsL_mem ha; omega)) e.args 0
  rw [timedE_eq]
  apply rtimed_r
  by_cases h5 : e.op = 5
  · rw [h5]
    simp only [av_e e]
    simp only [rtimed_b, rtimed_h, rtimed_rs, Try.f54, h5, F.EVT, Am.splice, Am.enterN, Am.freshMem, Am.cA, Am.cB, Am.cK, Am.cL, Am.cS, Am.cT, Am.cE, Am.aresults, Am.aresult, Am.codeKey, Am.frzTop, Am.spliceP, Nat.reduceAdd, Nat.reduceLeDiff, Nat.reduceBEq, Nat.reduceEqDiff, reduceIte, reduceCtorEq, Nat.reduceSub, Int.reduceBEq, Int.reduceSub, Int.reduceAdd, Int.reduceToNat, Int.reduceLT, Int.reduceLE, Int.reduceEq, Int.reduceNeg, Int.reduceBNe, Int.reduceGT, Int.reduceGE, Nat.reduceMul, Nat.reduceMod, Nat.reduceDiv]
    try rfl
  · have h5b : (e.op == 5) = false := beq_no h5
    rw [h5b, Bool.false_or]
    by_cases hc : e.op = 22 ∧ 0 ≤ e.n ∧ e.n < tl.length
    · rw [decide_eq_true hc, Bool.true_and]
      obtain ⟨h22, h0, hlt⟩ := hc
      have hge : e.n ≥ 0 := h0
      have h22b : (e.op == 22) = true := by simpa using h22
      have hg : tl[e.n.toNat]? = some (tl[e.n.toNat]'(by omega)) := List.getElem?_eq_getElem (by omega)
      rw [List.getD_eq_getElem?_getD, hg, Option.getD_some]
      generalize tl[e.n.toNat]'(by omega) = o at hg
      have hi := index_bol h0 hg
      cases o
      · rw [Bool.false_or]
        generalize timedL tl e.args = w at hloop
        simp only [av_e e]
        simp only [rtimed_b, rtimed_h, rtimed_rs, Try.f54, h5b, h22b, hge, hlt, bols_len, hi, F.EVT, Am.splice, Am.enterN, Am.freshMem, Am.cA, Am.cB, Am.cK, Am.cL, Am.cS, Am.cT, Am.cE, Am.aresults, Am.aresult, Am.codeKey, Am.frzTop, Am.spliceP, Nat.reduceAdd, Nat.reduceLeDiff, Nat.reduceBEq, Nat.reduceEqDiff, reduceIte, reduceCtorEq, Nat.reduceSub, Int.reduceBEq, Int.reduceSub, Int.reduceAdd, Int.reduceToNat, Int.reduceLT, Int.reduceLE, Int.reduceEq, Int.reduceNeg, Int.reduceBNe, Int.reduceGT, Int.reduceGE, Nat.reduceMul, Nat.reduceMod, Nat.reduceDiv]
        exact hloop _ rfl (Nat.zero_le _) (by kernel_rfl)
      · simp only [av_e e, Bool.true_or]
        simp only [rtimed_b, rtimed_h, rtimed_rs, Try.f54, h5b, h22b, hge, hlt, bols_len, hi, F.EVT, Am.splice, Am.enterN, Am.freshMem, Am.cA, Am.cB, Am.cK, Am.cL, Am.cS, Am.cT, Am.cE, Am.aresults, Am.aresult, Am.codeKey, Am.frzTop, Am.spliceP, Nat.reduceAdd, Nat.reduceLeDiff, Nat.reduceBEq, Nat.reduceEqDiff, reduceIte, reduceCtorEq, Nat.reduceSub, Int.reduceBEq, Int.reduceSub, Int.reduceAdd, Int.reduceToNat, Int.reduceLT, Int.reduceLE, Int.reduceEq, Int.reduceNeg, Int.reduceBNe, Int.reduceGT, Int.reduceGE, Nat.reduceMul, Nat.reduceMod, Nat.reduceDiv]
        try rfl
    · rw [decide_eq_false hc, Bool.false_and, Bool.false_or]
      have hcase : (e.op == 22) = false ∨ ((e.op == 22) = true ∧ ¬ e.n ≥ 0) ∨ ((e.op == 22) = true ∧ e.n ≥ 0 ∧ ¬ e.n < (tl.length : Int)) := by
        by_cases h1 : e.op = 22
        · by_cases h2 : e.n ≥ 0
          · exact .inr (.inr ⟨by simpa using h1, h2, fun q => hc ⟨h1, h2, q⟩⟩)
          · exact .inr (.inl ⟨by simpa using h1, h2⟩)
        · exact .inl (beq_no h1)
      generalize timedL tl e.args = w at hloop
      simp only [av_e e]
      rcases hcase with h1 | ⟨h1, h2⟩ | ⟨h1, h2, h3⟩
      · simp only [rtimed_b, rtimed_h, rtimed_rs, Try.f54, h5b, h1, F.EVT, Am.splice, Am.enterN, Am.freshMem, Am.cA, Am.cB, Am.cK, Am.cL, Am.cS, Am.cT, Am.cE, Am.aresults, Am.aresult, Am.codeKey, Am.frzTop, Am.spliceP, Nat.reduceAdd, Nat.reduceLeDiff, Nat.reduceBEq, Nat.reduceEqDiff, reduceIte, reduceCtorEq, Nat.reduceSub, Int.reduceBEq, Int.reduceSub, Int.reduceAdd, Int.reduceToNat, Int.reduceLT, Int.reduceLE, Int.reduceEq, Int.reduceNeg, Int.reduceBNe, Int.reduceGT, Int.reduceGE, Nat.reduceMul, Nat.reduceMod, Nat.reduceDiv]
        exact hloop _ rfl (Nat.zero_le _) (by kernel_rfl)
      · simp only [rtimed_b, rtimed_h, rtimed_rs, Try.f54, h5b, h1, h2, F.EVT, Am.splice, Am.enterN, Am.freshMem, Am.cA, Am.cB, Am.cK, Am.cL, Am.cS, Am.cT, Am.cE, Am.aresults, Am.aresult, Am.codeKey, Am.frzTop, Am.spliceP, Nat.reduceAdd, Nat.reduceLeDiff, Nat.reduceBEq, Nat.reduceEqDiff, reduceIte, reduceCtorEq, Nat.reduceSub, Int.reduceBEq, Int.reduceSub, Int.reduceAdd, Int.reduceToNat, Int.reduceLT, Int.reduceLE, Int.reduceEq, Int.reduceNeg, Int.reduceBNe, Int.reduceGT, Int.reduceGE, Nat.reduceMul, Nat.reduceMod, Nat.reduceDiv]
        exact hloop _ rfl (Nat.zero_le _) (by kernel_rfl)
      · simp only [rtimed_b, rtimed_h, rtimed_rs, Try.f54, h5b, h1, h2, h3, bols_len, F.EVT, Am.splice, Am.enterN, Am.freshMem, Am.cA, Am.cB, Am.cK, Am.cL, Am.cS, Am.cT, Am.cE, Am.aresults, Am.aresult, Am.codeKey, Am.frzTop, Am.spliceP, Nat.reduceAdd, Nat.reduceLeDiff, Nat.reduceBEq, Nat.reduceEqDiff, reduceIte, reduceCtorEq, Nat.reduceSub, Int.reduceBEq, Int.reduceSub, Int.reduceAdd, Int.reduceToNat, Int.reduceLT, Int.reduceLE, Int.reduceEq, Int.reduceNeg, Int.reduceBNe, Int.reduceGT, Int.reduceGE, Nat.reduceMul, Nat.reduceMod, Nat.reduceDiv]
        exact hloop _ rfl (Nat.zero_le _) (by kernel_rfl)
def tlL (acc : List Bool) : List Fn → List Bool
  | [] => acc
  | f :: fs => tlL (acc ++ [timedE acc f.body]) fs
def timedOf (fs : List Fn) (e : E) : Bool := timedE (tlL [] fs) e
abbrev rtsSt (fs : List Fn) (e : E) (tl : List Bool) (i : Int) : St := rTimed_t3 (slF fs) (.ptr none 3 0) (mkOwn 22 (bols tl)) (I i) [⟨[(3, emem e)], [(22, rowT (bols tl) 1)]⟩]
theorem rTimed_loop {fs : List Fn} {e : E} (hn : fs.length ≤ 1000000) (hp : parts e ≤ 1000000) (hb : ∀ f ∈ fs, parts f.body ≤ 1000000) : ∀ (xs : List Fn) (i : Nat) (tl : List Bool) (st : St), fs.drop i = xs → i ≤ fs.length → tl.length = i → tlL tl xs = tlL [] fs →
    St.forget (rTimed_h.at 3) st = rtsSt fs e tl i → leaveR PP rTimed_rs 0 (thenC (blockC 0 (rTimed_L 3 st)) (acodeX PP RR [] rTimed_L rTimed_k3)) = some (B (timedOf fs e), [])
  | [], i, tl, st, h, hle, hts, hk, hst => by
    have he : i = fs.length := by have := drop_nil' h; omega
    subst he
    have hx := rtimed_ok (tl := tl) e hp
    rw [rTimed_q3, hst]
    unfold timedOf
    rw [← hk]
    simp only [tlL]
    generalize timedE tl e = o at hx
    simp only [av_e e] at hx
    rw [rTimed_e3]; simp only [rTimed_k3, rTimed_l3, rTimed_b, rTimed_rs, Try.f27, Int.lt_irrefl, hx, F.EVT, Am.splice, Am.enterN, Am.freshMem, Am.cA, Am.cB, Am.cK, Am.cL, Am.cS, Am.cT, Am.cE, Am.aresults, Am.aresult, Am.codeKey, Am.frzTop, Am.spliceP, Nat.reduceAdd, Nat.reduceLeDiff, Nat.reduceBEq, Nat.reduceEqDiff, reduceIte, reduceCtorEq, Nat.reduceSub, Int.reduceBEq, Int.reduceSub, Int.reduceAdd, Int.reduceToNat, Int.reduceLT, Int.reduceLE, Int.reduceEq, Int.reduceNeg, Int.reduceBNe, Int.reduceGT, Int.reduceGE, Nat.reduceMul, Nat.reduceMod, Nat.reduceDiv]
    try rfl
  | f :: xs, i, tl, st, h, hle, hts, hk, hst => by
    obtain ⟨hlt, hi, hd⟩ := drop_cons h
    have hlt' : (i : Int) < fs.length := by omega
    have hx := rtimed_ok (tl := tl) f.body (hb f (List.mem_of_getElem? hi))
    have hk' : tlL (tl ++ [timedE tl f.body]) xs = tlL [] fs := hk
    have hbb : ((bols tl).length + 1) * 1 ≤ 140737488355328 := by rw [bols_len]; omega
    generalize timedE tl f.body = o at hx hk'
    have hap : bols tl ++ [.bool o] = bols (tl ++ [o]) := by simp [bols]
    simp only [av_e f.body] at hx
    rw [rTimed_q3, hst]
    rw [rTimed_e3]; simp only [rTimed_l3, rTimed_b, rTimed_rs, Try.f27, index_F hi, hlt', hx, hbb, hap, wrapS hlt (show fs.length ≤ LIM by simp only [LIM]; omega), F.EVT, Am.splice, Am.enterN, Am.freshMem, Am.cA, Am.cB, Am.cK, Am.cL, Am.cS, Am.cT, Am.cE, Am.aresults, Am.aresult, Am.codeKey, Am.frzTop, Am.spliceP, Nat.reduceAdd, Nat.reduceLeDiff, Nat.reduceBEq, Nat.reduceEqDiff, reduceIte, reduceCtorEq, Nat.reduceSub, Int.reduceBEq, Int.reduceSub, Int.reduceAdd, Int.reduceToNat, Int.reduceLT, Int.reduceLE, Int.reduceEq, Int.reduceNeg, Int.reduceBNe, Int.reduceGT, Int.reduceGE, Nat.reduceMul, Nat.reduceMod, Nat.reduceDiv]
    exact rTimed_loop hn hp hb xs (i + 1) (tl ++ [o]) _ hd hlt (by simp [hts]) hk' (by delta rtsSt; generalize bols (tl ++ [o]) = E; cases E <;> kernel_rfl)
theorem rTimed_ok {fs : List Fn} {e : E} (hF : fairB fs = true) (hp : parts e ≤ 1000000) : RR 27 [slF fs, e.av] [] = some (B (timedOf fs e), []) := by
  have hn : fs.length ≤ 1000000 := by have := hF; unfold fairB at this; simp only [Bool.and_eq_true, decide_eq_true_eq] at this; omega
  have hloop := rTimed_loop hn hp (fair_parts hF) fs 0 []
  apply rTimed_r
  simp only [av_e e]
  simp only [rTimed_b, rTimed_h, rTimed_rs, Try.f27, F.EVT, Am.splice, Am.enterN, Am.freshMem, Am.cA, Am.cB, Am.cK, Am.cL, Am.cS, Am.cT, Am.cE, Am.aresults, Am.aresult, Am.codeKey, Am.frzTop, Am.spliceP, Nat.reduceAdd, Nat.reduceLeDiff, Nat.reduceBEq, Nat.reduceEqDiff, reduceIte, reduceCtorEq, Nat.reduceSub, Int.reduceBEq, Int.reduceSub, Int.reduceAdd, Int.reduceToNat, Int.reduceLT, Int.reduceLE, Int.reduceEq, Int.reduceNeg, Int.reduceBNe, Int.reduceGT, Int.reduceGE, Nat.reduceMul, Nat.reduceMod, Nat.reduceDiv]
  exact hloop _ rfl (Nat.zero_le _) rfl rfl (by kernel_rfl)
end Go.Proofs.Ytjbmdfdgeioecaa.X
