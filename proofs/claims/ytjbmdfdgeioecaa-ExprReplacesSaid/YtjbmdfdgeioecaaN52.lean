/- The columns that the code's Reads finds: the closure over its map, the walk. -/
import Derived.Test.YtjbmdfdgeioecaaT1
import Derived.Test.YtjbmdfdgeioecaaN0
namespace Go.Proofs.Ytjbmdfdgeioecaa.X
open Go.Proofs.Ytjbmdfdgeioecaa.Am Go.Proofs.Ytjbmdfdgeioecaa.F
set_option linter.unusedVariables false
set_option linter.unusedSimpArgs false
set_option maxRecDepth 100000
set_option maxHeartbeats 1000000
def insK (ks : List Int) (n : Int) : List Int := if ks.contains n then ks else ks ++ [n]
mutual
def colsE (ks : List Int) : E → List Int | .mk op n _ args => colsL (if op == 3 then insK ks n else ks) args
def colsL (ks : List Int) : List E → List Int | [] => ks | a :: l => colsL (colsE ks a) l
end
theorem colsE_eq (ks : List Int) (e : E) : colsE ks e = colsL (if e.op == 3 then insK ks e.n else ks) e.args := by cases e; simp only [colsE, E.op, E.n, E.args]; rfl
mutual
def readsN (n : Int) : E → Bool | .mk op m _ args => (op == 3 && m == n) || readsNL n args
def readsNL (n : Int) : List E → Bool | [] => false | a :: l => readsN n a || readsNL n l
end
/-- The map's entries. -/
def rents (ks : List Int) : AV := .ments (ints ks) (List.replicate ks.length (B true))
abbrev f55 : AV := .func 55 [] [.ptr (some 0) 3 0]
theorem keyIdx_no {n : Int} : ∀ (ks : List Int) (i : Nat), ks.contains n = false → keyIdx .i64 n (ints ks) i = some none
  | [], _, _ => rfl
  | k :: ks, i, h => by
    have h' : (n == k) = false ∧ ks.contains n = false := by simpa [List.contains_cons] using h
    have hne : ¬ n = k := by simpa using h'.1
    show (if IntKind.i64 = IntKind.i64 then (if n = k then some (some i) else keyIdx .i64 n (ints ks) (i + 1)) else none) = _
    rw [if_pos rfl, if_neg hne, keyIdx_no ks (i + 1) h'.2]
theorem keyIdx_yes {n : Int} : ∀ (ks : List Int) (i : Nat), ks.contains n = true → ∃ j, keyIdx .i64 n (ints ks) i = some (some j)
  | [], _, h => by simp at h
  | k :: ks, i, h => by
    show ∃ j, (if IntKind.i64 = IntKind.i64 then (if n = k then some (some i) else keyIdx .i64 n (ints ks) (i + 1)) else none) = _
    rw [if_pos rfl]
    by_cases hne : n = k
    · exact ⟨i, by rw [if_pos hne]⟩
    · rw [if_neg hne]
      have h' : ks.contains n = true := by
        rcases List.mem_cons.mp (List.contains_iff_mem.mp h) with h | h
        · exact absurd h hne
        · exact List.contains_iff_mem.mpr h
      exact keyIdx_yes ks (i + 1) h'
theorem rep_set (n j : Nat) : (List.replicate n (B true)).set j (B true) = List.replicate n (B true) := by
  apply List.ext_getElem?
  intro i
  rw [List.getElem?_set]
  split
  · rename_i h
    subst h
    simp only [List.length_replicate, List.getElem?_replicate]
  · rfl
/-- A store to the map. -/
theorem map_put (ms : List Mem) (d s : Nat) (ks : List Int) (n : Int) (h : varAt ms d s = some [rents ks]) : mapSetC ms d s .i64 n (B true) (entsC (varAt ms d s)) = some (.junk, setVar ms d s [rents (insK ks n)]) := by
  rw [h]
  simp only [rents, entsC_hit, mapSetC_some, insK]
  cases hc : ks.contains n
  · rw [keyIdx_no ks 0 hc, setC_miss]
    simp only [Bool.false_eq_true, if_false]
    congr 3
    simp [ints, List.replicate_succ', rents]
  · obtain ⟨j, hj⟩ := keyIdx_yes ks 0 hc
    rw [hj, setC_hit, rep_set]
    rfl
theorem reads1_ok (e : E) (m m0 : Mem) (ms : List Mem) (ks : List Int) (h3 : varAt (m0 :: ms) 0 3 = some [.mref none 4]) (h4 : varAt (m0 :: ms) 0 4 = some [rents ks]) :
    RR 55 [e.av, .ptr (some 0) 3 0] (m :: m0 :: ms) = some (.tup [], m :: setVar (m0 :: ms) 0 4 [rents (if e.op == 3 then insK ks e.n else ks)]) := by
  apply reads1_r
  obtain ⟨vs, tk⟩ := m
  cases hop : (e.op == 3)
  · simp only [av_e e, Bool.false_eq_true, if_false]
    rw [setVar_same h4]
    simp only [reads1_b, reads1_h, reads1_rs, Try.f55, hop, F.EVT, Am.splice, Am.enterN, Am.freshMem, Am.cA, Am.cB, Am.cK, Am.cL, Am.cS, Am.cT, Am.cE, Am.aresults, Am.aresult, Am.codeKey, Am.frzTop, Am.spliceP, Nat.reduceAdd, Nat.reduceLeDiff, Nat.reduceBEq, Nat.reduceEqDiff, reduceIte, reduceCtorEq, Nat.reduceSub, Int.reduceBEq, Int.reduceSub, Int.reduceAdd, Int.reduceToNat, Int.reduceLT, Int.reduceLE, Int.reduceEq, Int.reduceNeg, Int.reduceBNe, Int.reduceGT, Int.reduceGE, Nat.reduceMul, Nat.reduceMod, Nat.reduceDiv]
    try rfl
  · have h4' : varAt (⟨[(2, [I e.op, I e.n, .pv (.str e.s), .pv (.slc (e.args.map E.pv))])], []⟩ :: ⟨vs, tk⟩ :: m0 :: ms) 0 4 = some [rents ks] := by
      rw [varAt_cons, if_neg (by simp), varAt_cons, if_neg (by simp)]; exact h4
    have hp := map_put (⟨[(2, [I e.op, I e.n, .pv (.str e.s), .pv (.slc (e.args.map E.pv))])], []⟩ :: ⟨vs, tk⟩ :: m0 :: ms) 0 4 ks e.n h4'
    rw [h4', setVar_cons, if_neg (by simp), setVar_cons, if_neg (by simp)] at hp
    simp only [av_e e, if_true]
    simp only [reads1_b, reads1_h, reads1_rs, Try.f55, hop, h3, h4, n01, List.length_cons, hp, F.EVT, Am.splice, Am.enterN, Am.freshMem, Am.cA, Am.cB, Am.cK, Am.cL, Am.cS, Am.cT, Am.cE, Am.aresults, Am.aresult, Am.codeKey, Am.frzTop, Am.spliceP, Nat.reduceAdd, Nat.reduceLeDiff, Nat.reduceBEq, Nat.reduceEqDiff, reduceIte, reduceCtorEq, Nat.reduceSub, Int.reduceBEq, Int.reduceSub, Int.reduceAdd, Int.reduceToNat, Int.reduceLT, Int.reduceLE, Int.reduceEq, Int.reduceNeg, Int.reduceBNe, Int.reduceGT, Int.reduceGE, Nat.reduceMul, Nat.reduceMod, Nat.reduceDiv]
    try rfl
end Go.Proofs.Ytjbmdfdgeioecaa.X
