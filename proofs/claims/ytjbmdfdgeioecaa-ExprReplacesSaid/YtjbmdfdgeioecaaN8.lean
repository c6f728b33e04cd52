/- Types of expressions, as the document's answer gives them: functions that are right. -/
import Derived.Test.YtjbmdfdgeioecaaN7
namespace Go.Proofs.Ytjbmdfdgeioecaa.X
open Go.Proofs.Ytjbmdfdgeioecaa.Am Go.Proofs.Ytjbmdfdgeioecaa.F
set_option linter.unusedVariables false
set_option linter.unusedSimpArgs false
set_option maxRecDepth 100000
set_option maxHeartbeats 1000000
theorem rLevels_loop {e : E} (hp : partsL e.args ≤ 1000000) (hl : ∀ a ∈ e.args, RR 17 [a.av] [] = some (.pv (.int .i64 (levels a)), [])) : ∀ (xs : List E) (i acc : Nat) (st : St), e.args.drop i = xs → i ≤ e.args.length → max acc (levelsL xs) = levelsL e.args →
    St.forget (rLevels_h.at 3) st = rLevels_t3 (.ptr none 1 0) (I acc) (I i) [⟨[(1, emem e)], []⟩] → leaveR PP rLevels_rs 0 (thenC (blockC 0 (rLevels_L 3 st)) (acodeX PP RR [] rLevels_L rLevels_k3)) = some (I (levels e), [])
  | [], i, acc, st, h, hle, hm, hst => by
    have he : i = e.args.length := by have := drop_nil' h; omega
    subst he
    have hb := levelsL_parts e.args
    have hw : IntKind.i64.wrap ((acc : Int) + 1) = ((levels e : Nat) : Int) := by
      rw [levels_eq, ← hm]
      simp only [levelsL, Nat.max_zero] at hm ⊢
      rw [wrap_ok (by omega) (by omega)]
      omega
    rw [rLevels_q3, hst]
    rw [rLevels_e3]; simp only [rLevels_k3, rLevels_l3, rLevels_b, rLevels_rs, Try.f17, Int.lt_irrefl, hw, F.EVT, Am.splice, Am.enterN, Am.freshMem, Am.cA, Am.cB, Am.cK, Am.cL, Am.cS, Am.cT, Am.cE, Am.aresults, Am.aresult, Am.codeKey, Am.frzTop, Am.spliceP, Nat.reduceAdd, Nat.reduceLeDiff, Nat.reduceBEq, Nat.reduceEqDiff, reduceIte, reduceCtorEq, Nat.reduceSub, Int.reduceBEq, Int.reduceSub, Int.reduceAdd, Int.reduceToNat, Int.reduceLT, Int.reduceLE, Int.reduceEq, Int.reduceNeg, Int.reduceBNe, Int.reduceGT, Int.reduceGE, Nat.reduceMul, Nat.reduceMod, Nat.reduceDiv]
  | a :: xs, i, acc, st, h, hle, hm, hst => by
    obtain ⟨hlt, hi, hd⟩ := drop_cons h
    have hr := hl a (List.mem_of_getElem? hi)
    simp only [E.av] at hr
    have hlt' : (i : Int) < e.args.length := by omega
    have hn := partsL_len e.args
    rw [rLevels_q3, hst]
    rw [rLevels_e3]; simp only [rLevels_k3, rLevels_l3, rLevels_b, rLevels_rs, Try.f17, index_E hi, hlt', hr, wrap_succ hlt (show e.args.length ≤ 1000000000 by omega), max_cast, F.EVT, Am.splice, Am.enterN, Am.freshMem, Am.cA, Am.cB, Am.cK, Am.cL, Am.cS, Am.cT, Am.cE, Am.aresults, Am.aresult, Am.codeKey, Am.frzTop, Am.spliceP, Nat.reduceAdd, Nat.reduceLeDiff, Nat.reduceBEq, Nat.reduceEqDiff, reduceIte, reduceCtorEq, Nat.reduceSub, Int.reduceBEq, Int.reduceSub, Int.reduceAdd, Int.reduceToNat, Int.reduceLT, Int.reduceLE, Int.reduceEq, Int.reduceNeg, Int.reduceBNe, Int.reduceGT, Int.reduceGE, Nat.reduceMul, Nat.reduceMod, Nat.reduceDiv]
    refine rLevels_loop hp hl xs (i + 1) (max acc (levels a)) _ hd hlt ?_ (by kernel_rfl)
    rw [← hm, levelsL, Nat.max_assoc]
theorem rLevels_ok : ∀ (e : E), parts e ≤ 1000000 → RR 17 [e.av] [] = some (.pv (.int .i64 (levels e)), []) := by
  apply E.ind
  intro e ih hp
  rw [parts_eq] at hp
  have hloop := rLevels_loop (e := e) (by omega) (fun a ha => ih a ha (by have := partsL_mem ha; omega)) e.args 0 0
  apply rLevels_r
  simp only [rLevels_b, rLevels_h, rLevels_rs, Try.f17, E.av, F.EVT, Am.splice, Am.enterN, Am.freshMem, Am.cA, Am.cB, Am.cK, Am.cL, Am.cS, Am.cT, Am.cE, Am.aresults, Am.aresult, Am.codeKey, Am.frzTop, Am.spliceP, Nat.reduceAdd, Nat.reduceLeDiff, Nat.reduceBEq, Nat.reduceEqDiff, reduceIte, reduceCtorEq, Nat.reduceSub, Int.reduceBEq, Int.reduceSub, Int.reduceAdd, Int.reduceToNat, Int.reduceLT, Int.reduceLE, Int.reduceEq, Int.reduceNeg, Int.reduceBNe, Int.reduceGT, Int.reduceGE, Nat.reduceMul, Nat.reduceMod, Nat.reduceDiv]
  exact hloop _ rfl (Nat.zero_le _) (Nat.zero_max _) (by kernel_rfl)
def tyD (fs : List Fn) (cols params : List Int) (e : E) : Option Int := if levels e > 12 then none else ty fs cols params e
/-- A type, or not, as a pair. -/
def tyAV (o : Option Int) : AV := .tup [I (o.getD 0), B o.isSome]
theorem rof_ok {fs : List Fn} {cols params : List Int} (e : E) (hp : parts e ≤ 1000000) : RR 58 [slF fs, slI cols, slI params, e.av] [] = some (tyAV (tyD fs cols params e), []) := by
  have h1 := rLevels_ok e hp
  obtain ⟨t, h2, h3⟩ := rinner_ok (fs := fs) (cols := cols) (params := params) e hp
  simp only [E.av] at h1 h2
  unfold tyD
  apply rof_r
  by_cases hl : levels e > 12
  · have hl' : (levels e : Int) > 12 := by omega
    rw [if_pos hl]
    simp only [rof_b, rof_h, rof_rs, Try.f58, E.av, h1, hl', F.EVT, Am.splice, Am.enterN, Am.freshMem, Am.cA, Am.cB, Am.cK, Am.cL, Am.cS, Am.cT, Am.cE, Am.aresults, Am.aresult, Am.codeKey, Am.frzTop, Am.spliceP, Nat.reduceAdd, Nat.reduceLeDiff, Nat.reduceBEq, Nat.reduceEqDiff, reduceIte, reduceCtorEq, Nat.reduceSub, Int.reduceBEq, Int.reduceSub, Int.reduceAdd, Int.reduceToNat, Int.reduceLT, Int.reduceLE, Int.reduceEq, Int.reduceNeg, Int.reduceBNe, Int.reduceGT, Int.reduceGE, Nat.reduceMul, Nat.reduceMod, Nat.reduceDiv]
    try rfl
  · have hl' : ¬ (levels e : Int) > 12 := by omega
    rw [if_neg hl]
    cases ho : ty fs cols params e with
    | none =>
      rw [ho] at h2
      simp only [Option.isSome_none] at h2
      simp only [rof_b, rof_h, rof_rs, Try.f58, E.av, h1, hl', h2, F.EVT, Am.splice, Am.enterN, Am.freshMem, Am.cA, Am.cB, Am.cK, Am.cL, Am.cS, Am.cT, Am.cE, Am.aresults, Am.aresult, Am.codeKey, Am.frzTop, Am.spliceP, Nat.reduceAdd, Nat.reduceLeDiff, Nat.reduceBEq, Nat.reduceEqDiff, reduceIte, reduceCtorEq, Nat.reduceSub, Int.reduceBEq, Int.reduceSub, Int.reduceAdd, Int.reduceToNat, Int.reduceLT, Int.reduceLE, Int.reduceEq, Int.reduceNeg, Int.reduceBNe, Int.reduceGT, Int.reduceGE, Nat.reduceMul, Nat.reduceMod, Nat.reduceDiv]
      try rfl
    | some u =>
      rw [ho] at h2
      simp only [Option.isSome_some] at h2
      have := h3 u ho
      subst this
      simp only [rof_b, rof_h, rof_rs, Try.f58, E.av, h1, hl', h2, F.EVT, Am.splice, Am.enterN, Am.freshMem, Am.cA, Am.cB, Am.cK, Am.cL, Am.cS, Am.cT, Am.cE, Am.aresults, Am.aresult, Am.codeKey, Am.frzTop, Am.spliceP, Nat.reduceAdd, Nat.reduceLeDiff, Nat.reduceBEq, Nat.reduceEqDiff, reduceIte, reduceCtorEq, Nat.reduceSub, Int.reduceBEq, Int.reduceSub, Int.reduceAdd, Int.reduceToNat, Int.reduceLT, Int.reduceLE, Int.reduceEq, Int.reduceNeg, Int.reduceBNe, Int.reduceGT, Int.reduceGE, Nat.reduceMul, Nat.reduceMod, Nat.reduceDiv]
      try rfl
def rightF (fs : List Fn) (f : Fn) : Bool := f.params.all isTy && (tyD fs [] f.params f.body == some f.result && decide (f.params.length ≤ 6))
def rightL (fs : List Fn) : Nat → List Fn → Bool
  | _, [] => true
  | i, f :: l => rightF (fs.take i) f && rightL fs (i + 1) l
def rightFs (fs : List Fn) : Bool := decide (fs.length ≤ 20) && rightL fs 0 fs
abbrev rriSt (fs : List Fn) (f : Fn) (i k : Int) : St := rRight_t6 (slF fs) (I i) (.ptr none 4 0) (I k) [⟨[(4, fmem f)], []⟩]
theorem rRight_inner {fs : List Fn} {f : Fn} (i : Int) (hn : f.params.length ≤ LIM) : ∀ (xs : List Int) (k : Nat), f.params.drop k = xs → k ≤ f.params.length → 
      (xs.all isTy = true → rRight_X6 (rriSt fs f i k) = rRight_X6 (rriSt fs f i f.params.length)) ∧
      (xs.all isTy = false → ∃ (j : Nat) (x : Int), f.params[j]? = some x ∧ isTy x = false ∧ rRight_X6 (rriSt fs f i k) = rRight_X6 (rriSt fs f i j))
  | [], k, h, hle => by
    have he : k = f.params.length := by have := drop_nil' h; omega
    subst he
    exact ⟨fun _ => rfl, fun h => (by cases h)⟩
  | x :: xs, k, h, hle => by
    obtain ⟨hlt, hi, hd⟩ := drop_cons h
    have hlt' : (k : Int) < f.params.length := by omega
    cases hk : isTy x
    · exact ⟨fun h => (by rw [List.all_cons, hk] at h; cases h), fun _ => ⟨k, x, hi, hk, rfl⟩⟩
    · have hs : ∃ st', rRight_X6 (rriSt fs f i k) = rRight_L 6 st' ∧ St.forget (rRight_h.at 6) st' = rriSt fs f i (k + 1 : Nat) := by
        rw [rRight_e6]; simp only [rRight_l6, rRight_b, rRight_rs, Try.f33, index_I hi, hlt', ints_len, rkind_ok, hk, wrapS hlt hn, F.EVT, Am.splice, Am.enterN, Am.freshMem, Am.cA, Am.cB, Am.cK, Am.cL, Am.cS, Am.cT, Am.cE, Am.aresults, Am.aresult, Am.codeKey, Am.frzTop, Am.spliceP, Nat.reduceAdd, Nat.reduceLeDiff, Nat.reduceBEq, Nat.reduceEqDiff, reduceIte, reduceCtorEq, Nat.reduceSub, Int.reduceBEq, Int.reduceSub, Int.reduceAdd, Int.reduceToNat, Int.reduceLT, Int.reduceLE, Int.reduceEq, Int.reduceNeg, Int.reduceBNe, Int.reduceGT, Int.reduceGE, Nat.reduceMul, Nat.reduceMod, Nat.reduceDiv]
        exact ⟨_, rfl, by kernel_rfl⟩
      obtain ⟨st', h1, h2⟩ := hs
      rw [h1, List.all_cons, hk, Bool.true_and, rRight_q6, h2]
      exact rRight_inner i hn xs (k + 1) hd hlt
end Go.Proofs.Ytjbmdfdgeioecaa.X
