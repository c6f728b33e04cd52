/- The time, by the code: the closure for one expression; Timed. -/
import Derived.Test.YtjbmdfdgeioecaaN47
namespace Go.Proofs.Ytjbmdfdgeioecaa.X
open Go.Proofs.Ytjbmdfdgeioecaa.Am Go.Proofs.Ytjbmdfdgeioecaa.F
set_option linter.unusedVariables false
set_option linter.unusedSimpArgs false
set_option maxRecDepth 100000
set_option maxHeartbeats 1000000
theorem timed1_ok {fs : List Fn} {cols params : List Int} {tl : List Bool} (hlen : fs.length ≤ tl.length) (e : E) (hp : parts e ≤ 1000000) (t : Int) (hty : ty fs cols params e = some t) (m0 : Mem) (h0 : varAt [m0] 0 5 = some [mkOwn 22 (bols tl)]) :
    RR 51 [e.av, .ptr (some 0) 5 0] [m0] = some (B (timedE tl e), [m0]) := by
  have hw := walkT_ok hlen e hp t hty ⟨[(2, emem e), (4, [B false])], []⟩ m0 [] false (by simp [varAt, memAt, List.lookup]) (by rw [varAt_up]; exact h0)
  rw [Bool.false_or, show setVar [⟨[(2, emem e), (4, [B false])], []⟩, m0] 1 4 [B (timedE tl e)] = [⟨[(2, emem e), (4, [B (timedE tl e)])], []⟩, m0] by simp [setVar, modMem, setAt]] at hw
  apply timed1_r
  generalize timedE tl e = b at hw ⊢
  simp only [av_e e] at hw ⊢
  simp only [timed1_b, timed1_h, timed1_rs, Try.f51, hw, List.length_cons, List.length_nil, F.EVT, Am.splice, Am.enterN, Am.freshMem, Am.cA, Am.cB, Am.cK, Am.cL, Am.cS, Am.cT, Am.cE, Am.aresults, Am.aresult, Am.codeKey, Am.frzTop, Am.spliceP, Nat.reduceAdd, Nat.reduceLeDiff, Nat.reduceBEq, Nat.reduceEqDiff, reduceIte, reduceCtorEq, Nat.reduceSub, Int.reduceBEq, Int.reduceSub, Int.reduceAdd, Int.reduceToNat, Int.reduceLT, Int.reduceLE, Int.reduceEq, Int.reduceNeg, Int.reduceBNe, Int.reduceGT, Int.reduceGE, Nat.reduceMul, Nat.reduceMod, Nat.reduceDiv]
  try rfl
abbrev xtSt (fs : List Fn) (e : E) (tl : List Bool) (i : Int) : St := xTimed_t4 (.ptr none 3 0) (.ptr none 5 0) (.func 51 [] [.ptr none 5 0]) (slF fs) (I fs.length) (I i) [⟨[(3, emem e), (5, [mkOwn 22 (bols tl)])], [(22, rowT (bols tl) 1)]⟩]
theorem xTimed_loop {fs : List Fn} {e : E} {cols params : List Int} {t : Int} (hn : fs.length ≤ 1000000) (hp : parts e ≤ 1000000) (hR : FnsOK fs) (ht : ty fs cols params e = some t) : ∀ (xs : List Fn) (i : Nat) (tl : List Bool) (st : St), fs.drop i = xs → i ≤ fs.length → tl.length = i → tlL tl xs = tlL [] fs →
    St.forget (xTimed_h.at 4) st = xtSt fs e tl i → leaveR PP xTimed_rs 0 (thenC (blockC 0 (xTimed_L 4 st)) (acodeX PP RR [] xTimed_L xTimed_k4)) = some (B (timedOf fs e), [])
  | [], i, tl, st, h, hle, hts, hk, hst => by
    have he : i = fs.length := by have := drop_nil' h; omega
    subst he
    have hx := fun m0 h0 => timed1_ok (fs := fs) (tl := tl) (by omega) e hp t ht m0 h0
    rw [xTimed_q4, hst]
    unfold timedOf
    rw [← hk]
    simp only [tlL]
    generalize timedE tl e = o at hx
    simp only [av_e e] at hx
    rw [xTimed_e4]; simp only [xTimed_k4, xTimed_l4, xTimed_b, xTimed_rs, Try.f26, Int.lt_irrefl, hx, F.EVT, Am.splice, Am.enterN, Am.freshMem, Am.cA, Am.cB, Am.cK, Am.cL, Am.cS, Am.cT, Am.cE, Am.aresults, Am.aresult, Am.codeKey, Am.frzTop, Am.spliceP, Nat.reduceAdd, Nat.reduceLeDiff, Nat.reduceBEq, Nat.reduceEqDiff, reduceIte, reduceCtorEq, Nat.reduceSub, Int.reduceBEq, Int.reduceSub, Int.reduceAdd, Int.reduceToNat, Int.reduceLT, Int.reduceLE, Int.reduceEq, Int.reduceNeg, Int.reduceBNe, Int.reduceGT, Int.reduceGE, Nat.reduceMul, Nat.reduceMod, Nat.reduceDiv]
    try rfl
  | f :: xs, i, tl, st, h, hle, hts, hk, hst => by
    obtain ⟨hlt, hi, hd⟩ := drop_cons h
    have hlt' : (i : Int) < fs.length := by omega
    obtain ⟨r1, r2⟩ := hR i f hi
    have hx := fun m0 h0 => timed1_ok (fs := fs.take i) (tl := tl) (by rw [List.length_take]; omega) f.body r2 _ r1 m0 h0
    have hk' : tlL (tl ++ [timedE tl f.body]) xs = tlL [] fs := hk
    have hbb : ((bols tl).length + 1) * 1 ≤ 140737488355328 := by rw [bols_len]; omega
    generalize timedE tl f.body = o at hx hk'
    have hap : bols tl ++ [.bool o] = bols (tl ++ [o]) := by simp [bols]
    simp only [av_e f.body] at hx
    rw [xTimed_q4, hst]
    rw [xTimed_e4]; simp only [xTimed_l4, xTimed_b, xTimed_rs, Try.f26, index_F hi, hlt', hx, hbb, hap, wrapS hlt (show fs.length ≤ LIM by simp only [LIM]; omega), F.EVT, Am.splice, Am.enterN, Am.freshMem, Am.cA, Am.cB, Am.cK, Am.cL, Am.cS, Am.cT, Am.cE, Am.aresults, Am.aresult, Am.codeKey, Am.frzTop, Am.spliceP, Nat.reduceAdd, Nat.reduceLeDiff, Nat.reduceBEq, Nat.reduceEqDiff, reduceIte, reduceCtorEq, Nat.reduceSub, Int.reduceBEq, Int.reduceSub, Int.reduceAdd, Int.reduceToNat, Int.reduceLT, Int.reduceLE, Int.reduceEq, Int.reduceNeg, Int.reduceBNe, Int.reduceGT, Int.reduceGE, Nat.reduceMul, Nat.reduceMod, Nat.reduceDiv]
    exact xTimed_loop hn hp hR ht xs (i + 1) (tl ++ [o]) _ hd hlt (by simp [hts]) hk' (by delta xtSt; generalize bols (tl ++ [o]) = E; cases E <;> kernel_rfl)
theorem xTimed_ok {fs : List Fn} {e : E} {row : List V} {t : Int} (G : Good fs e row t) : RR 26 [slF fs, e.av] [] = some (B (timedOf fs e), []) := by
  have hn : fs.length ≤ 1000000 := by have := G.fair; unfold fairB at this; simp only [Bool.and_eq_true, decide_eq_true_eq] at this; omega
  have hloop := xTimed_loop hn G.parts G.fns G.ty fs 0 []
  apply xTimed_r
  simp only [av_e e]
  simp only [xTimed_b, xTimed_h, xTimed_rs, Try.f26, F.EVT, Am.splice, Am.enterN, Am.freshMem, Am.cA, Am.cB, Am.cK, Am.cL, Am.cS, Am.cT, Am.cE, Am.aresults, Am.aresult, Am.codeKey, Am.frzTop, Am.spliceP, Nat.reduceAdd, Nat.reduceLeDiff, Nat.reduceBEq, Nat.reduceEqDiff, reduceIte, reduceCtorEq, Nat.reduceSub, Int.reduceBEq, Int.reduceSub, Int.reduceAdd, Int.reduceToNat, Int.reduceLT, Int.reduceLE, Int.reduceEq, Int.reduceNeg, Int.reduceBNe, Int.reduceGT, Int.reduceGE, Nat.reduceMul, Nat.reduceMod, Nat.reduceDiv]
  exact hloop _ rfl (Nat.zero_le _) rfl rfl (by kernel_rfl)
end Go.Proofs.Ytjbmdfdgeioecaa.X
