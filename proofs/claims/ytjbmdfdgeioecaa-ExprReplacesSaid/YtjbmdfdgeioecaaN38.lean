/- Walking an expression with the counter. -/
import Derived.Test.YtjbmdfdgeioecaaN34
import Derived.Test.YtjbmdfdgeioecaaN37
namespace Go.Proofs.Ytjbmdfdgeioecaa.X
open Go.Proofs.Ytjbmdfdgeioecaa.Am Go.Proofs.Ytjbmdfdgeioecaa.F
set_option linter.unusedVariables false
set_option linter.unusedSimpArgs false
set_option maxRecDepth 100000
set_option maxHeartbeats 1000000
theorem walkC_loop {e : E} (hl : ∀ a ∈ e.args, ∀ (m0 : Mem) (ms : List Mem) (c : Nat), c + parts a ≤ 1000000000 → varAt (m0 :: ms) 0 10 = some [I c] → RR 52 [a.av, f85] (m0 :: ms) = some (.tup [], setVar (m0 :: ms) 0 10 [I (c + parts a : Nat)])) (hn : e.args.length ≤ 1000000000) :
    ∀ (xs : List E) (i c : Nat) (m0 : Mem) (ms : List Mem) (st : St), e.args.drop i = xs → i ≤ e.args.length → c + partsL xs ≤ 1000000000 → varAt (m0 :: ms) 0 10 = some [I c] →
    St.forget (walk_h.at 3) st = walk_t3 f85 (slE e.args) (I e.args.length) (I i) (⟨[], []⟩ :: m0 :: ms) → leaveR PP walk_rs (ms.length + 1) (blockC 0 (walk_L 3 st)) = some (.tup [], setVar (m0 :: ms) 0 10 [I (c + partsL xs : Nat)])
  | [], i, c, m0, ms, st, h, hle, hc, hv, hst => by
    have he : i = e.args.length := by have := drop_nil' h; omega
    subst he
    rw [walk_q3, hst]
    simp only [partsL, Nat.add_zero]
    rw [setVar_same hv]
    rw [walk_e3]; simp only [walk_k3, walk_l3, walk_b, walk_rs, Try.f52, Int.lt_irrefl, F.EVT, Am.splice, Am.enterN, Am.freshMem, Am.cA, Am.cB, Am.cK, Am.cL, Am.cS, Am.cT, Am.cE, Am.aresults, Am.aresult, Am.codeKey, Am.frzTop, Am.spliceP, Nat.reduceAdd, Nat.reduceLeDiff, Nat.reduceBEq, Nat.reduceEqDiff, reduceIte, reduceCtorEq, Nat.reduceSub, Int.reduceBEq, Int.reduceSub, Int.reduceAdd, Int.reduceToNat, Int.reduceLT, Int.reduceLE, Int.reduceEq, Int.reduceNeg, Int.reduceBNe, Int.reduceGT, Int.reduceGE, Nat.reduceMul, Nat.reduceMod, Nat.reduceDiv]
    try rfl
  | x :: xs, i, c, m0, ms, st, h, hle, hc, hv, hst => by
    obtain ⟨hlt, hi, hd⟩ := drop_cons h
    have hlt' : (i : Int) < e.args.length := by omega
    simp only [partsL] at hc
    have hx := hl x (List.mem_of_getElem? hi) (⟨[(5, emem x)], []⟩) (m0 :: ms) c (by omega) (by rw [varAt_up]; exact hv)
    rw [setVar_up] at hx
    simp only [E.av] at hx
    obtain ⟨m1, ms1, h1, h2⟩ := setVar_shape m0 ms 0 10 [I (c + parts x : Nat)]
    have hv1 := varAt_some (cs := [I (c + parts x : Nat)]) hv
    have ht := setVar_twice (m0 :: ms) 0 10 [I (c + parts x : Nat)] [I (c + parts x + partsL xs : Nat)]
    rw [h1] at hx hv1 ht
    rw [walk_q3, hst]
    have hs : ∃ st', walk_X3 (walk_t3 f85 (slE e.args) (I e.args.length) (I i) (⟨[], []⟩ :: m0 :: ms)) = walk_L 3 st' ∧ St.forget (walk_h.at 3) st' = walk_t3 f85 (slE e.args) (I e.args.length) (I (i + 1 : Nat)) (⟨[], []⟩ :: m1 :: ms1) := by
      rw [walk_e3]; simp only [walk_l3, walk_b, walk_rs, Try.f52, index_E hi, hlt', hx, wrapS hlt (show e.args.length ≤ LIM by simp only [LIM]; omega), F.EVT, Am.splice, Am.enterN, Am.freshMem, Am.cA, Am.cB, Am.cK, Am.cL, Am.cS, Am.cT, Am.cE, Am.aresults, Am.aresult, Am.codeKey, Am.frzTop, Am.spliceP, Nat.reduceAdd, Nat.reduceLeDiff, Nat.reduceBEq, Nat.reduceEqDiff, reduceIte, reduceCtorEq, Nat.reduceSub, Int.reduceBEq, Int.reduceSub, Int.reduceAdd, Int.reduceToNat, Int.reduceLT, Int.reduceLE, Int.reduceEq, Int.reduceNeg, Int.reduceBNe, Int.reduceGT, Int.reduceGE, Nat.reduceMul, Nat.reduceMod, Nat.reduceDiv]
      exact ⟨_, rfl, by kernel_rfl⟩
    obtain ⟨st', g1, g2⟩ := hs
    rw [g1, show c + partsL (x :: xs) = c + parts x + partsL xs by simp only [partsL]; omega, ← ht, ← h2]
    exact walkC_loop hl hn xs (i + 1) (c + parts x) m1 ms1 st' hd hlt (by omega) hv1 g2
theorem walkC_ok : ∀ (e : E), ∀ (m0 : Mem) (ms : List Mem) (c : Nat), c + parts e ≤ 1000000000 → varAt (m0 :: ms) 0 10 = some [I c] → RR 52 [e.av, f85] (m0 :: ms) = some (.tup [], setVar (m0 :: ms) 0 10 [I (c + parts e : Nat)]) := by
  apply E.ind (p := fun e => ∀ (m0 : Mem) (ms : List Mem) (c : Nat), c + parts e ≤ 1000000000 → varAt (m0 :: ms) 0 10 = some [I c] → RR 52 [e.av, f85] (m0 :: ms) = some (.tup [], setVar (m0 :: ms) 0 10 [I (c + parts e : Nat)]))
  intro e ih m0 ms c hc hv
  have hpa := parts_eq e
  have hn := partsL_len e.args
  have h1 := inline1_ok e ⟨[(2, emem e)], []⟩ m0 ms c (by omega) hv
  obtain ⟨m1, ms1, g1, g2⟩ := setVar_shape m0 ms 0 10 [I (c + 1 : Nat)]
  have hv1 := varAt_some (cs := [I (c + 1 : Nat)]) hv
  have ht := setVar_twice (m0 :: ms) 0 10 [I (c + 1 : Nat)] [I (c + 1 + partsL e.args : Nat)]
  rw [g1] at h1 hv1 ht
  have hloop := walkC_loop (e := e) (fun a ha => ih a ha) (by omega) e.args 0 (c + 1) m1 ms1
  rw [show c + parts e = c + 1 + partsL e.args by omega, ← ht]
  apply walk_r
  generalize hr : (some (AV.tup [], setVar (m1 :: ms1) 0 10 [I (c + 1 + partsL e.args : Nat)])) = r at hloop ⊢
  simp only [av_e e] at h1 ⊢
  rw [List.length_cons, ← g2]
  simp only [walk_b, walk_h, walk_rs, Try.f52, h1, F.EVT, Am.splice, Am.enterN, Am.freshMem, Am.cA, Am.cB, Am.cK, Am.cL, Am.cS, Am.cT, Am.cE, Am.aresults, Am.aresult, Am.codeKey, Am.frzTop, Am.spliceP, Nat.reduceAdd, Nat.reduceLeDiff, Nat.reduceBEq, Nat.reduceEqDiff, reduceIte, reduceCtorEq, Nat.reduceSub, Int.reduceBEq, Int.reduceSub, Int.reduceAdd, Int.reduceToNat, Int.reduceLT, Int.reduceLE, Int.reduceEq, Int.reduceNeg, Int.reduceBNe, Int.reduceGT, Int.reduceGE, Nat.reduceMul, Nat.reduceMod, Nat.reduceDiv]
  exact hloop _ rfl (Nat.zero_le _) (by omega) hv1 (by kernel_rfl)
end Go.Proofs.Ytjbmdfdgeioecaa.X
