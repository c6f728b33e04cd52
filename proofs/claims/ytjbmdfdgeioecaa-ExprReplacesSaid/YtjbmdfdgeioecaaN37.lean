/- Counting parts. -/
import Derived.Test.YtjbmdfdgeioecaaN3
namespace Go.Proofs.Ytjbmdfdgeioecaa.X
open Go.Proofs.Ytjbmdfdgeioecaa.Am Go.Proofs.Ytjbmdfdgeioecaa.F
set_option linter.unusedVariables false
set_option linter.unusedSimpArgs false
set_option maxRecDepth 100000
set_option maxHeartbeats 1000000
theorem rParts_loop {e : E} (hp : parts e ≤ 1000000000) (hl : ∀ a ∈ e.args, RR 86 [a.av] [] = some (.pv (.int .i64 (parts a)), [])) : ∀ (xs : List E) (i c : Nat) (st : St), e.args.drop i = xs → i ≤ e.args.length → c + partsL xs = parts e →
    St.forget (rParts_h.at 3) st = rParts_t3 (.ptr none 1 0) (I c) (I i) [⟨[(1, emem e)], []⟩] → leaveR PP rParts_rs 0 (thenC (blockC 0 (rParts_L 3 st)) (acodeX PP RR [] rParts_L rParts_k3)) = some (I (parts e), [])
  | [], i, c, st, h, hle, hc, hst => by
    have he : i = e.args.length := by have := drop_nil' h; omega
    subst he
    simp only [partsL, Nat.add_zero] at hc
    rw [rParts_q3, hst, ← hc]
    rw [rParts_e3]; simp only [rParts_k3, rParts_l3, rParts_b, rParts_rs, Try.f86, Int.lt_irrefl, F.EVT, Am.splice, Am.enterN, Am.freshMem, Am.cA, Am.cB, Am.cK, Am.cL, Am.cS, Am.cT, Am.cE, Am.aresults, Am.aresult, Am.codeKey, Am.frzTop, Am.spliceP, Nat.reduceAdd, Nat.reduceLeDiff, Nat.reduceBEq, Nat.reduceEqDiff, reduceIte, reduceCtorEq, Nat.reduceSub, Int.reduceBEq, Int.reduceSub, Int.reduceAdd, Int.reduceToNat, Int.reduceLT, Int.reduceLE, Int.reduceEq, Int.reduceNeg, Int.reduceBNe, Int.reduceGT, Int.reduceGE, Nat.reduceMul, Nat.reduceMod, Nat.reduceDiv]
    try rfl
  | x :: xs, i, c, st, h, hle, hc, hst => by
    obtain ⟨hlt, hi, hd⟩ := drop_cons h
    have hlt' : (i : Int) < e.args.length := by omega
    have hx := hl x (List.mem_of_getElem? hi)
    have hpa := parts_eq e
    have hla := partsL_len e.args
    simp only [partsL] at hc
    simp only [E.av] at hx
    have hw : IntKind.i64.wrap ((c : Int) + (parts x : Nat)) = ((c + parts x : Nat) : Int) := by rw [wrap_ok (by omega) (by omega)]; omega
    rw [rParts_q3, hst]
    rw [rParts_e3]; simp only [rParts_l3, rParts_b, rParts_rs, Try.f86, index_E hi, hlt', hx, hw, wrapS hlt (show e.args.length ≤ LIM by simp only [LIM]; omega), F.EVT, Am.splice, Am.enterN, Am.freshMem, Am.cA, Am.cB, Am.cK, Am.cL, Am.cS, Am.cT, Am.cE, Am.aresults, Am.aresult, Am.codeKey, Am.frzTop, Am.spliceP, Nat.reduceAdd, Nat.reduceLeDiff, Nat.reduceBEq, Nat.reduceEqDiff, reduceIte, reduceCtorEq, Nat.reduceSub, Int.reduceBEq, Int.reduceSub, Int.reduceAdd, Int.reduceToNat, Int.reduceLT, Int.reduceLE, Int.reduceEq, Int.reduceNeg, Int.reduceBNe, Int.reduceGT, Int.reduceGE, Nat.reduceMul, Nat.reduceMod, Nat.reduceDiv]
    exact rParts_loop hp hl xs (i + 1) (c + parts x) _ hd hlt (by omega) (by kernel_rfl)
theorem rParts_ok : ∀ e : E, parts e ≤ 1000000000 → RR 86 [e.av] [] = some (I (parts e), []) := by
  apply E.ind
  intro e ih hp
  have hpa := parts_eq e
  have hloop := rParts_loop hp (fun a ha => ih a ha (by have := partsL_mem ha; omega)) e.args 0 1
  apply rParts_r
  generalize hr : some (I (parts e), ([] : List Mem)) = r at hloop ⊢
  simp only [av_e e]
  simp only [rParts_b, rParts_h, rParts_rs, Try.f86, F.EVT, Am.splice, Am.enterN, Am.freshMem, Am.cA, Am.cB, Am.cK, Am.cL, Am.cS, Am.cT, Am.cE, Am.aresults, Am.aresult, Am.codeKey, Am.frzTop, Am.spliceP, Nat.reduceAdd, Nat.reduceLeDiff, Nat.reduceBEq, Nat.reduceEqDiff, reduceIte, reduceCtorEq, Nat.reduceSub, Int.reduceBEq, Int.reduceSub, Int.reduceAdd, Int.reduceToNat, Int.reduceLT, Int.reduceLE, Int.reduceEq, Int.reduceNeg, Int.reduceBNe, Int.reduceGT, Int.reduceGE, Nat.reduceMul, Nat.reduceMod, Nat.reduceDiv]
  exact hloop _ rfl (Nat.zero_le _) (by omega) (by kernel_rfl)
/-! ### the code's counter -/
abbrev f85 : AV := .func 85 [] [.ptr (some 0) 10 0]
theorem inline1_ok (e : E) (m m0 : Mem) (ms : List Mem) (c : Nat) (hc : c ≤ 1000000000) (h : varAt (m0 :: ms) 0 10 = some [I c]) : RR 85 [e.av, .ptr (some 0) 10 0] (m :: m0 :: ms) = some (.tup [], m :: setVar (m0 :: ms) 0 10 [I (c + 1 : Nat)]) := by
  have hw : IntKind.i64.wrap ((c : Int) + 1) = ((c + 1 : Nat) : Int) := by rw [wrap_ok (by omega) (by omega)]; omega
  apply inline1_r
  obtain ⟨vs, tk⟩ := m
  simp only [av_e e]
  simp only [inline1_b, inline1_h, inline1_rs, Try.f85, h, hw, n01, List.length_cons, F.EVT, Am.splice, Am.enterN, Am.freshMem, Am.cA, Am.cB, Am.cK, Am.cL, Am.cS, Am.cT, Am.cE, Am.aresults, Am.aresult, Am.codeKey, Am.frzTop, Am.spliceP, Nat.reduceAdd, Nat.reduceLeDiff, Nat.reduceBEq, Nat.reduceEqDiff, reduceIte, reduceCtorEq, Nat.reduceSub, Int.reduceBEq, Int.reduceSub, Int.reduceAdd, Int.reduceToNat, Int.reduceLT, Int.reduceLE, Int.reduceEq, Int.reduceNeg, Int.reduceBNe, Int.reduceGT, Int.reduceGE, Nat.reduceMul, Nat.reduceMod, Nat.reduceDiv]
  skip
end Go.Proofs.Ytjbmdfdgeioecaa.X
