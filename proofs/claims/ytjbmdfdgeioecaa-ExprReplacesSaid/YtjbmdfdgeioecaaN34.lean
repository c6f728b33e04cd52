/- Copies of expressions. -/
import Derived.Test.YtjbmdfdgeioecaaN3
namespace Go.Proofs.Ytjbmdfdgeioecaa.X
open Go.Proofs.Ytjbmdfdgeioecaa.Am Go.Proofs.Ytjbmdfdgeioecaa.F
set_option linter.unusedVariables false
set_option linter.unusedSimpArgs false
set_option maxRecDepth 100000
set_option maxHeartbeats 1000000
def eps (l : List E) : List PV := l.map E.pv
theorem eps_len (l : List E) : (eps l).length = l.length := List.length_map _
theorem eps_snoc (es : List E) (x : E) : eps es ++ [.agg [.int .i64 x.op, .int .i64 x.n, .str x.s, .slc (x.args.map E.pv)]] = eps (es ++ [x]) := by
  unfold eps
  rw [List.map_append, List.map_cons, List.map_nil, ← E.pv_eq x]
abbrev slE (l : List E) : AV := .pv (.slc (l.map E.pv))
abbrev zE : List AV := [I 0, I 0, .pv (.str ByteArray.empty), .full []]
abbrev outE (s : Nat) (e : E) (es : List E) : List AV := [I e.op, I e.n, .pv (.str e.s), mkOwn s (eps es)]
def E.z : E := .mk 0 0 ByteArray.empty []
theorem mk_av (e : E) : E.av (.mk e.op e.n e.s e.args) = e.av := rfl
abbrev clSt (e : E) (es : List E) (i : Int) : St := clone_t3 (.ptr none 2 0) (.ptr none 3 0) (slE e.args) (I e.args.length) (I i) [⟨[(2, zE), (3, outE 25 e es)], [(25, rowT (eps es) 4)]⟩]
theorem clone_loop {e : E} (hl : ∀ a ∈ e.args, RR 83 [a.av] [] = some (a.av, [])) (hn : e.args.length ≤ 1000000) : ∀ (xs : List E) (i : Nat) (es : List E) (st : St), e.args.drop i = xs → i ≤ e.args.length → es.length = i → es ++ xs = e.args →
    St.forget (clone_h.at 3) st = clSt e es i → leaveR PP clone_rs 0 (thenC (blockC 0 (clone_L 3 st)) (acodeX PP RR [] clone_L clone_k3)) = some (e.av, [])
  | [], i, es, st, h, hle, hts, hk, hst => by
    have he : i = e.args.length := by have := drop_nil' h; omega
    subst he
    rw [List.append_nil] at hk
    subst hk
    rw [clone_q3, hst]
    simp only [E.av]
    rw [clone_e3]; simp only [clone_k3, clone_l3, clone_b, clone_rs, Try.f83, Int.lt_irrefl, F.EVT, Am.splice, Am.enterN, Am.freshMem, Am.cA, Am.cB, Am.cK, Am.cL, Am.cS, Am.cT, Am.cE, Am.aresults, Am.aresult, Am.codeKey, Am.frzTop, Am.spliceP, Nat.reduceAdd, Nat.reduceLeDiff, Nat.reduceBEq, Nat.reduceEqDiff, reduceIte, reduceCtorEq, Nat.reduceSub, Int.reduceBEq, Int.reduceSub, Int.reduceAdd, Int.reduceToNat, Int.reduceLT, Int.reduceLE, Int.reduceEq, Int.reduceNeg, Int.reduceBNe, Int.reduceGT, Int.reduceGE, Nat.reduceMul, Nat.reduceMod, Nat.reduceDiv]
    try rfl
  | x :: xs, i, es, st, h, hle, hts, hk, hst => by
    obtain ⟨hlt, hi, hd⟩ := drop_cons h
    have hlt' : (i : Int) < e.args.length := by omega
    have hx := hl x (List.mem_of_getElem? hi)
    simp only [E.av] at hx
    have hb : ((eps es).length + 1) * 56 ≤ 140737488355328 := by rw [eps_len]; omega
    have hap := eps_snoc es x
    rw [clone_q3, hst]
    rw [clone_e3]; simp only [clone_l3, clone_b, clone_rs, Try.f83, index_E hi, hlt', hx, hb, hap, wrapS hlt (show e.args.length ≤ LIM by simp only [LIM]; omega), F.EVT, Am.splice, Am.enterN, Am.freshMem, Am.cA, Am.cB, Am.cK, Am.cL, Am.cS, Am.cT, Am.cE, Am.aresults, Am.aresult, Am.codeKey, Am.frzTop, Am.spliceP, Nat.reduceAdd, Nat.reduceLeDiff, Nat.reduceBEq, Nat.reduceEqDiff, reduceIte, reduceCtorEq, Nat.reduceSub, Int.reduceBEq, Int.reduceSub, Int.reduceAdd, Int.reduceToNat, Int.reduceLT, Int.reduceLE, Int.reduceEq, Int.reduceNeg, Int.reduceBNe, Int.reduceGT, Int.reduceGE, Nat.reduceMul, Nat.reduceMod, Nat.reduceDiv]
    exact clone_loop hl hn xs (i + 1) (es ++ [x]) _ hd hlt (by simp [hts]) (by rw [← hk]; simp) (by delta clSt outE; generalize eps (es ++ [x]) = E; cases E <;> kernel_rfl)
theorem clone_ok : ∀ (e : E), parts e ≤ 1000000 → RR 83 [e.av] [] = some (e.av, []) := by
  apply E.ind
  intro e ih hp
  rw [parts_eq] at hp
  have hn : e.args.length ≤ 1000000 := by have := partsL_len e.args; omega
  have hloop := clone_loop (e := e) (fun a ha => ih a ha (by have := partsL_mem ha; omega)) hn e.args 0 []
  apply clone_r
  generalize hr : some (e.av, ([] : List Mem)) = r at hloop ⊢
  simp only [clone_b, clone_h, clone_rs, Try.f83, E.av, F.EVT, Am.splice, Am.enterN, Am.freshMem, Am.cA, Am.cB, Am.cK, Am.cL, Am.cS, Am.cT, Am.cE, Am.aresults, Am.aresult, Am.codeKey, Am.frzTop, Am.spliceP, Nat.reduceAdd, Nat.reduceLeDiff, Nat.reduceBEq, Nat.reduceEqDiff, reduceIte, reduceCtorEq, Nat.reduceSub, Int.reduceBEq, Int.reduceSub, Int.reduceAdd, Int.reduceToNat, Int.reduceLT, Int.reduceLE, Int.reduceEq, Int.reduceNeg, Int.reduceBNe, Int.reduceGT, Int.reduceGE, Nat.reduceMul, Nat.reduceMod, Nat.reduceDiv]
  exact hloop _ rfl (Nat.zero_le _) rfl rfl (by kernel_rfl)
end Go.Proofs.Ytjbmdfdgeioecaa.X
