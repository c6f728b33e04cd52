/- Types of expressions, as the document's answer gives them: any expression. -/
import Derived.Test.YtjbmdfdgeioecaaN5
namespace Go.Proofs.Ytjbmdfdgeioecaa.X
open Go.Proofs.Ytjbmdfdgeioecaa.Am Go.Proofs.Ytjbmdfdgeioecaa.F
set_option linter.unusedVariables false
set_option linter.unusedSimpArgs false
set_option maxRecDepth 100000
set_option maxHeartbeats 1000000
theorem mk_at {s : Nat} {l : List Int} {a : Int} {i : Int} (h0 : 0 ≤ i) (h : l[i.toNat]? = some a) : indexC 1 (mkOwn s (ints l)) i = some (.eptr [.int .i64 a]) := by
  rw [index_mk]; simp [indexC, AV.slc?, h, h0, ints, PV.cells]
theorem mk_1 {s : Nat} {a : Int} : indexC 1 (mkOwn s (ints [a])) 0 = some (.eptr [.int .i64 a]) := mk_at (by omega) rfl
theorem mk_20 {s : Nat} {a b : Int} : indexC 1 (mkOwn s (ints [a, b])) 0 = some (.eptr [.int .i64 a]) := mk_at (by omega) rfl
theorem mk_21 {s : Nat} {a b : Int} : indexC 1 (mkOwn s (ints [a, b])) 1 = some (.eptr [.int .i64 b]) := mk_at (by omega) rfl
theorem mk_30 {s : Nat} {a b c : Int} : indexC 1 (mkOwn s (ints [a, b, c])) 0 = some (.eptr [.int .i64 a]) := mk_at (by omega) rfl
theorem mk_31 {s : Nat} {a b c : Int} : indexC 1 (mkOwn s (ints [a, b, c])) 1 = some (.eptr [.int .i64 b]) := mk_at (by omega) rfl
theorem mk_32 {s : Nat} {a b c : Int} : indexC 1 (mkOwn s (ints [a, b, c])) 2 = some (.eptr [.int .i64 c]) := mk_at (by omega) rfl
theorem beq_no {a b : Int} (h : a ≠ b) : (a == b) = false := by simpa using h
theorem Gives.mono {x y : Option (AV × List Mem)} {o : Option Int} (h : Gives x o) (i : ∀ r, x = some r → y = some r) : Gives y o := by
  obtain ⟨t, h1, h2⟩ := h
  exact ⟨t, i _ h1, h2⟩
theorem Gives.same {x : Option (AV × List Mem)} {o : Option Int} {t : Int} {b : Bool} (h : x = some (.tup [I t, B b], [])) (hb : b = o.isSome) (ht : ∀ u, o = some u → t = u) : Gives x o := ⟨t, by rw [h, hb], ht⟩
theorem tyArgs_arity {cols params : List Int} {op n : Int} {s : ByteArray} {l : List Int} (h : arity op ≠ l.length) : tyArgs cols params op n s l = none := by
  unfold arity at h
  unfold tyArgs
  match l with
  | [] => 
    have : ¬ (0 ≤ op ∧ op ≤ 5) := fun hq => by rw [if_pos hq] at h; exact h rfl
    simp only [leafTy]
    rw [if_neg (by omega), if_neg (by omega), if_neg (by omega), if_neg (by omega), if_neg (by omega), if_neg (by omega)]
  | [a] =>
    have h1 : ¬ (op = 6 ∨ op = 7 ∨ op = 20) := fun hq => by rw [if_neg (by omega), if_pos hq] at h; exact h rfl
    simp only [unTy]
    rw [if_neg (by omega : ¬ op = 6), if_neg (by omega : ¬ op = 7), if_neg (by omega : ¬ op = 20)]
    split <;> rfl
  | [a, b] =>
    have h1 : ¬ (8 ≤ op ∧ op ≤ 19) := fun hq => by rw [if_neg (by omega), if_neg (by omega), if_neg (by omega), if_pos hq] at h; exact h rfl
    simp only [binTy]
    rw [if_neg (by omega : ¬ (8 ≤ op ∧ op ≤ 12)), if_neg (by omega : ¬ (13 ≤ op ∧ op ≤ 16)), if_neg (by omega : ¬ (op = 17 ∨ op = 18)), if_neg (by omega : ¬ op = 19)]
    split <;> rfl
  | [a, b, c] =>
    have h1 : ¬ op = 21 := fun hq => by rw [if_neg (by omega), if_neg (by omega), if_pos hq] at h; exact h rfl
    simp only
    rw [if_neg (by omega)]
  | _ :: _ :: _ :: _ :: _ => rfl
theorem len0 {l : List Int} (h : (l.length : Int) = 0) : l = [] := List.eq_nil_of_length_eq_zero (by omega)
theorem len1 {l : List Int} (h : (l.length : Int) = 1) : ∃ a, l = [a] := by
  match l, h with
  | [a], _ => exact ⟨a, rfl⟩
  | [], h => simp at h
  | _ :: _ :: _, h => simp at h; omega
theorem len2 {l : List Int} (h : (l.length : Int) = 2) : ∃ a b, l = [a, b] := by
  match l, h with
  | [a, b], _ => exact ⟨a, b, rfl⟩
  | [], h => simp at h
  | [_], h => simp at h
  | _ :: _ :: _ :: _, h => simp at h; omega
theorem len3 {l : List Int} (h : (l.length : Int) = 3) : ∃ a b c, l = [a, b, c] := by
  match l, h with
  | [a, b, c], _ => exact ⟨a, b, c, rfl⟩
  | [], h => simp at h
  | [_], h => simp at h
  | [_, _], h => simp at h
  | _ :: _ :: _ :: _ :: _, h => simp at h; omega
abbrev slI (l : List Int) : AV := .pv (.slc (ints l))
abbrev slF (l : List Fn) : AV := .pv (.slc (l.map Fn.pv))
abbrev rinSt (fs : List Fn) (cols params : List Int) (e : E) (ts : List Int) (i : Int) : St := rinner_t3 (slF fs) (slI cols) (slI params) (.ptr none 7 0) (mkOwn 38 (ints ts)) (I i) [⟨[(7, emem e)], [(38, rowT (ints ts) 1)]⟩]
def RinGoal (fs : List Fn) (cols params : List Int) (e : E) (ts : List Int) (o : Option Int) : Prop :=
  Gives (leaveR PP rinner_rs 0 (thenC (blockC 0 (rinner_X3 (rinSt fs cols params e ts e.args.length))) (acodeX PP RR [] rinner_L rinner_k3))) o
theorem rin_0 {fs : List Fn} {cols params : List Int} {e : E} {ts : List Int} (hs : (e.s.toList == (ByteArray.mk #[]).toList) = true) (hk : e.op = 0) (hts : ts.length = e.args.length) (ha : arity 0 = ts.length) : RinGoal fs cols params e ts (tyArgs cols params 0 e.n e.s ts) := by
  unfold RinGoal
  rw [rinner_e3]; simp only [rinner_l3, rinner_b, rinner_rs, Try.f90, Int.lt_irrefl, hts, F.EVT, Am.splice, Am.enterN, Am.freshMem, Am.cA, Am.cB, Am.cK, Am.cL, Am.cS, Am.cT, Am.cE, Am.aresults, Am.aresult, Am.codeKey, Am.frzTop, Am.spliceP, Nat.reduceAdd, Nat.reduceLeDiff, Nat.reduceBEq, Nat.reduceEqDiff, reduceIte, reduceCtorEq, Nat.reduceSub, Int.reduceBEq, Int.reduceSub, Int.reduceAdd, Int.reduceToNat, Int.reduceLT, Int.reduceLE, Int.reduceEq, Int.reduceNeg, Int.reduceBNe, Int.reduceGT, Int.reduceGE, Nat.reduceMul, Nat.reduceMod, Nat.reduceDiv]
  clear hts
  obtain rfl := len0 (l := ts) (by have h0 : arity 0 = 0 := rfl; omega)
  refine Gives.yes (t := 0) ?_
  simp only [rinner_k3, rinner_b, rinner_rs, Try.f90, hk, hs, rnumber_ok, ints_len, show (arity 0 != ((0 : Nat) : Int)) = false from rfl, F.EVT, Am.splice, Am.enterN, Am.freshMem, Am.cA, Am.cB, Am.cK, Am.cL, Am.cS, Am.cT, Am.cE, Am.aresults, Am.aresult, Am.codeKey, Am.frzTop, Am.spliceP, Nat.reduceAdd, Nat.reduceLeDiff, Nat.reduceBEq, Nat.reduceEqDiff, reduceIte, reduceCtorEq, Nat.reduceSub, Int.reduceBEq, Int.reduceSub, Int.reduceAdd, Int.reduceToNat, Int.reduceLT, Int.reduceLE, Int.reduceEq, Int.reduceNeg, Int.reduceBNe, Int.reduceGT, Int.reduceGE, Nat.reduceMul, Nat.reduceMod, Nat.reduceDiv]
theorem rin_1 {fs : List Fn} {cols params : List Int} {e : E} {ts : List Int} (hs : (e.s.toList == (ByteArray.mk #[]).toList) = true) (hk : e.op = 1) (hts : ts.length = e.args.length) (ha : arity 1 = ts.length) : RinGoal fs cols params e ts (tyArgs cols params 1 e.n e.s ts) := by
  unfold RinGoal
  rw [rinner_e3]; simp only [rinner_l3, rinner_b, rinner_rs, Try.f90, Int.lt_irrefl, hts, F.EVT, Am.splice, Am.enterN, Am.freshMem, Am.cA, Am.cB, Am.cK, Am.cL, Am.cS, Am.cT, Am.cE, Am.aresults, Am.aresult, Am.codeKey, Am.frzTop, Am.spliceP, Nat.reduceAdd, Nat.reduceLeDiff, Nat.reduceBEq, Nat.reduceEqDiff, reduceIte, reduceCtorEq, Nat.reduceSub, Int.reduceBEq, Int.reduceSub, Int.reduceAdd, Int.reduceToNat, Int.reduceLT, Int.reduceLE, Int.reduceEq, Int.reduceNeg, Int.reduceBNe, Int.reduceGT, Int.reduceGE, Nat.reduceMul, Nat.reduceMod, Nat.reduceDiv]
  clear hts
  obtain rfl := len0 (l := ts) (by have h0 : arity 1 = 0 := rfl; omega)
  show Gives _ (if e.n = 0 ∧ (e.s.size : Int) ≤ 200 then some 1 else none)
  by_cases hn0 : e.n = 0
  · by_cases hz : (e.s.size : Int) ≤ 200
    · rw [if_pos ⟨hn0, hz⟩]
      refine Gives.yes (t := 1) ?_
      simp only [rinner_k3, rinner_b, rinner_rs, Try.f90, hk, hs, rnumber_ok, ints_len, show (arity 1 != ((0 : Nat) : Int)) = false from rfl, hn0, hz, F.EVT, Am.splice, Am.enterN, Am.freshMem, Am.cA, Am.cB, Am.cK, Am.cL, Am.cS, Am.cT, Am.cE, Am.aresults, Am.aresult, Am.codeKey, Am.frzTop, Am.spliceP, Nat.reduceAdd, Nat.reduceLeDiff, Nat.reduceBEq, Nat.reduceEqDiff, reduceIte, reduceCtorEq, Nat.reduceSub, Int.reduceBEq, Int.reduceSub, Int.reduceAdd, Int.reduceToNat, Int.reduceLT, Int.reduceLE, Int.reduceEq, Int.reduceNeg, Int.reduceBNe, Int.reduceGT, Int.reduceGE, Nat.reduceMul, Nat.reduceMod, Nat.reduceDiv]
    · rw [if_neg (fun q => hz q.2)]
      refine Gives.no (t := 1) ?_
      simp only [rinner_k3, rinner_b, rinner_rs, Try.f90, hk, hs, rnumber_ok, ints_len, show (arity 1 != ((0 : Nat) : Int)) = false from rfl, hn0, hz, F.EVT, Am.splice, Am.enterN, Am.freshMem, Am.cA, Am.cB, Am.cK, Am.cL, Am.cS, Am.cT, Am.cE, Am.aresults, Am.aresult, Am.codeKey, Am.frzTop, Am.spliceP, Nat.reduceAdd, Nat.reduceLeDiff, Nat.reduceBEq, Nat.reduceEqDiff, reduceIte, reduceCtorEq, Nat.reduceSub, Int.reduceBEq, Int.reduceSub, Int.reduceAdd, Int.reduceToNat, Int.reduceLT, Int.reduceLE, Int.reduceEq, Int.reduceNeg, Int.reduceBNe, Int.reduceGT, Int.reduceGE, Nat.reduceMul, Nat.reduceMod, Nat.reduceDiv]
  · rw [if_neg (fun q => hn0 q.1)]
    refine Gives.no (t := 0) ?_
    simp only [rinner_k3, rinner_b, rinner_rs, Try.f90, hk, hs, rnumber_ok, ints_len, show (arity 1 != ((0 : Nat) : Int)) = false from rfl, bne_no hn0, F.EVT, Am.splice, Am.enterN, Am.freshMem, Am.cA, Am.cB, Am.cK, Am.cL, Am.cS, Am.cT, Am.cE, Am.aresults, Am.aresult, Am.codeKey, Am.frzTop, Am.spliceP, Nat.reduceAdd, Nat.reduceLeDiff, Nat.reduceBEq, Nat.reduceEqDiff, reduceIte, reduceCtorEq, Nat.reduceSub, Int.reduceBEq, Int.reduceSub, Int.reduceAdd, Int.reduceToNat, Int.reduceLT, Int.reduceLE, Int.reduceEq, Int.reduceNeg, Int.reduceBNe, Int.reduceGT, Int.reduceGE, Nat.reduceMul, Nat.reduceMod, Nat.reduceDiv]
theorem rin_2 {fs : List Fn} {cols params : List Int} {e : E} {ts : List Int} (hs : (e.s.toList == (ByteArray.mk #[]).toList) = true) (hk : e.op = 2) (hts : ts.length = e.args.length) (ha : arity 2 = ts.length) : RinGoal fs cols params e ts (tyArgs cols params 2 e.n e.s ts) := by
  unfold RinGoal
  rw [rinner_e3]; simp only [rinner_l3, rinner_b, rinner_rs, Try.f90, Int.lt_irrefl, hts, F.EVT, Am.splice, Am.enterN, Am.freshMem, Am.cA, Am.cB, Am.cK, Am.cL, Am.cS, Am.cT, Am.cE, Am.aresults, Am.aresult, Am.codeKey, Am.frzTop, Am.spliceP, Nat.reduceAdd, Nat.reduceLeDiff, Nat.reduceBEq, Nat.reduceEqDiff, reduceIte, reduceCtorEq, Nat.reduceSub, Int.reduceBEq, Int.reduceSub, Int.reduceAdd, Int.reduceToNat, Int.reduceLT, Int.reduceLE, Int.reduceEq, Int.reduceNeg, Int.reduceBNe, Int.reduceGT, Int.reduceGE, Nat.reduceMul, Nat.reduceMod, Nat.reduceDiv]
  clear hts
  obtain rfl := len0 (l := ts) (by have h0 : arity 2 = 0 := rfl; omega)
  show Gives _ (if e.n = 0 ∨ e.n = 1 then some 2 else none)
  by_cases hn0 : e.n = 0
  · rw [if_pos (.inl hn0)]
    refine Gives.yes (t := 2) ?_
    simp only [rinner_k3, rinner_b, rinner_rs, Try.f90, hk, hs, rnumber_ok, ints_len, show (arity 2 != ((0 : Nat) : Int)) = false from rfl, hn0, F.EVT, Am.splice, Am.enterN, Am.freshMem, Am.cA, Am.cB, Am.cK, Am.cL, Am.cS, Am.cT, Am.cE, Am.aresults, Am.aresult, Am.codeKey, Am.frzTop, Am.spliceP, Nat.reduceAdd, Nat.reduceLeDiff, Nat.reduceBEq, Nat.reduceEqDiff, reduceIte, reduceCtorEq, Nat.reduceSub, Int.reduceBEq, Int.reduceSub, Int.reduceAdd, Int.reduceToNat, Int.reduceLT, Int.reduceLE, Int.reduceEq, Int.reduceNeg, Int.reduceBNe, Int.reduceGT, Int.reduceGE, Nat.reduceMul, Nat.reduceMod, Nat.reduceDiv]
  · by_cases hn1 : e.n = 1
    · rw [if_pos (.inr hn1)]
      refine Gives.yes (t := 2) ?_
      simp only [rinner_k3, rinner_b, rinner_rs, Try.f90, hk, hs, rnumber_ok, ints_len, show (arity 2 != ((0 : Nat) : Int)) = false from rfl, hn1, F.EVT, Am.splice, Am.enterN, Am.freshMem, Am.cA, Am.cB, Am.cK, Am.cL, Am.cS, Am.cT, Am.cE, Am.aresults, Am.aresult, Am.codeKey, Am.frzTop, Am.spliceP, Nat.reduceAdd, Nat.reduceLeDiff, Nat.reduceBEq, Nat.reduceEqDiff, reduceIte, reduceCtorEq, Nat.reduceSub, Int.reduceBEq, Int.reduceSub, Int.reduceAdd, Int.reduceToNat, Int.reduceLT, Int.reduceLE, Int.reduceEq, Int.reduceNeg, Int.reduceBNe, Int.reduceGT, Int.reduceGE, Nat.reduceMul, Nat.reduceMod, Nat.reduceDiv]
    · rw [if_neg (by omega)]
      refine Gives.no (t := 2) ?_
      simp only [rinner_k3, rinner_b, rinner_rs, Try.f90, hk, hs, rnumber_ok, ints_len, show (arity 2 != ((0 : Nat) : Int)) = false from rfl, beq_no hn0, beq_no hn1, F.EVT, Am.splice, Am.enterN, Am.freshMem, Am.cA, Am.cB, Am.cK, Am.cL, Am.cS, Am.cT, Am.cE, Am.aresults, Am.aresult, Am.codeKey, Am.frzTop, Am.spliceP, Nat.reduceAdd, Nat.reduceLeDiff, Nat.reduceBEq, Nat.reduceEqDiff, reduceIte, reduceCtorEq, Nat.reduceSub, Int.reduceBEq, Int.reduceSub, Int.reduceAdd, Int.reduceToNat, Int.reduceLT, Int.reduceLE, Int.reduceEq, Int.reduceNeg, Int.reduceBNe, Int.reduceGT, Int.reduceGE, Nat.reduceMul, Nat.reduceMod, Nat.reduceDiv]
theorem rin_3 {fs : List Fn} {cols params : List Int} {e : E} {ts : List Int} (hs : (e.s.toList == (ByteArray.mk #[]).toList) = true) (hk : e.op = 3) (hts : ts.length = e.args.length) (ha : arity 3 = ts.length) : RinGoal fs cols params e ts (tyArgs cols params 3 e.n e.s ts) := by
  unfold RinGoal
  rw [rinner_e3]; simp only [rinner_l3, rinner_b, rinner_rs, Try.f90, Int.lt_irrefl, hts, F.EVT, Am.splice, Am.enterN, Am.freshMem, Am.cA, Am.cB, Am.cK, Am.cL, Am.cS, Am.cT, Am.cE, Am.aresults, Am.aresult, Am.codeKey, Am.frzTop, Am.spliceP, Nat.reduceAdd, Nat.reduceLeDiff, Nat.reduceBEq, Nat.reduceEqDiff, reduceIte, reduceCtorEq, Nat.reduceSub, Int.reduceBEq, Int.reduceSub, Int.reduceAdd, Int.reduceToNat, Int.reduceLT, Int.reduceLE, Int.reduceEq, Int.reduceNeg, Int.reduceBNe, Int.reduceGT, Int.reduceGE, Nat.reduceMul, Nat.reduceMod, Nat.reduceDiv]
  clear hts
  obtain rfl := len0 (l := ts) (by have h0 : arity 3 = 0 := rfl; omega)
  refine Gives.mono (rat_ok cols e.n) fun r hr => ?_
  obtain ⟨t, ht, _⟩ := rat_ok cols e.n
  rw [ht] at hr
  cases hr
  simp only [rinner_k3, rinner_b, rinner_rs, Try.f90, hk, hs, rnumber_ok, ints_len, show (arity 3 != ((0 : Nat) : Int)) = false from rfl, ht, F.EVT, Am.splice, Am.enterN, Am.freshMem, Am.cA, Am.cB, Am.cK, Am.cL, Am.cS, Am.cT, Am.cE, Am.aresults, Am.aresult, Am.codeKey, Am.frzTop, Am.spliceP, Nat.reduceAdd, Nat.reduceLeDiff, Nat.reduceBEq, Nat.reduceEqDiff, reduceIte, reduceCtorEq, Nat.reduceSub, Int.reduceBEq, Int.reduceSub, Int.reduceAdd, Int.reduceToNat, Int.reduceLT, Int.reduceLE, Int.reduceEq, Int.reduceNeg, Int.reduceBNe, Int.reduceGT, Int.reduceGE, Nat.reduceMul, Nat.reduceMod, Nat.reduceDiv]
theorem rin_4 {fs : List Fn} {cols params : List Int} {e : E} {ts : List Int} (hs : (e.s.toList == (ByteArray.mk #[]).toList) = true) (hk : e.op = 4) (hts : ts.length = e.args.length) (ha : arity 4 = ts.length) : RinGoal fs cols params e ts (tyArgs cols params 4 e.n e.s ts) := by
  unfold RinGoal
  rw [rinner_e3]; simp only [rinner_l3, rinner_b, rinner_rs, Try.f90, Int.lt_irrefl, hts, F.EVT, Am.splice, Am.enterN, Am.freshMem, Am.cA, Am.cB, Am.cK, Am.cL, Am.cS, Am.cT, Am.cE, Am.aresults, Am.aresult, Am.codeKey, Am.frzTop, Am.spliceP, Nat.reduceAdd, Nat.reduceLeDiff, Nat.reduceBEq, Nat.reduceEqDiff, reduceIte, reduceCtorEq, Nat.reduceSub, Int.reduceBEq, Int.reduceSub, Int.reduceAdd, Int.reduceToNat, Int.reduceLT, Int.reduceLE, Int.reduceEq, Int.reduceNeg, Int.reduceBNe, Int.reduceGT, Int.reduceGE, Nat.reduceMul, Nat.reduceMod, Nat.reduceDiv]
  clear hts
  obtain rfl := len0 (l := ts) (by have h0 : arity 4 = 0 := rfl; omega)
  refine Gives.mono (rat_ok params e.n) fun r hr => ?_
  obtain ⟨t, ht, _⟩ := rat_ok params e.n
  rw [ht] at hr
  cases hr
  simp only [rinner_k3, rinner_b, rinner_rs, Try.f90, hk, hs, rnumber_ok, ints_len, show (arity 4 != ((0 : Nat) : Int)) = false from rfl, ht, F.EVT, Am.splice, Am.enterN, Am.freshMem, Am.cA, Am.cB, Am.cK, Am.cL, Am.cS, Am.cT, Am.cE, Am.aresults, Am.aresult, Am.codeKey, Am.frzTop, Am.spliceP, Nat.reduceAdd, Nat.reduceLeDiff, Nat.reduceBEq, Nat.reduceEqDiff, reduceIte, reduceCtorEq, Nat.reduceSub, Int.reduceBEq, Int.reduceSub, Int.reduceAdd, Int.reduceToNat, Int.reduceLT, Int.reduceLE, Int.reduceEq, Int.reduceNeg, Int.reduceBNe, Int.reduceGT, Int.reduceGE, Nat.reduceMul, Nat.reduceMod, Nat.reduceDiv]
theorem rin_5 {fs : List Fn} {cols params : List Int} {e : E} {ts : List Int} (hs : (e.s.toList == (ByteArray.mk #[]).toList) = true) (hk : e.op = 5) (hts : ts.length = e.args.length) (ha : arity 5 = ts.length) : RinGoal fs cols params e ts (tyArgs cols params 5 e.n e.s ts) := by
  unfold RinGoal
  rw [rinner_e3]; simp only [rinner_l3, rinner_b, rinner_rs, Try.f90, Int.lt_irrefl, hts, F.EVT, Am.splice, Am.enterN, Am.freshMem, Am.cA, Am.cB, Am.cK, Am.cL, Am.cS, Am.cT, Am.cE, Am.aresults, Am.aresult, Am.codeKey, Am.frzTop, Am.spliceP, Nat.reduceAdd, Nat.reduceLeDiff, Nat.reduceBEq, Nat.reduceEqDiff, reduceIte, reduceCtorEq, Nat.reduceSub, Int.reduceBEq, Int.reduceSub, Int.reduceAdd, Int.reduceToNat, Int.reduceLT, Int.reduceLE, Int.reduceEq, Int.reduceNeg, Int.reduceBNe, Int.reduceGT, Int.reduceGE, Nat.reduceMul, Nat.reduceMod, Nat.reduceDiv]
  clear hts
  obtain rfl := len0 (l := ts) (by have h0 : arity 5 = 0 := rfl; omega)
  show Gives _ (if e.n = 0 then some 0 else none)
  by_cases hn0 : e.n = 0
  · rw [if_pos hn0]
    refine Gives.yes (t := 0) ?_
    simp only [rinner_k3, rinner_b, rinner_rs, Try.f90, hk, hs, rnumber_ok, ints_len, show (arity 5 != ((0 : Nat) : Int)) = false from rfl, hn0, F.EVT, Am.splice, Am.enterN, Am.freshMem, Am.cA, Am.cB, Am.cK, Am.cL, Am.cS, Am.cT, Am.cE, Am.aresults, Am.aresult, Am.codeKey, Am.frzTop, Am.spliceP, Nat.reduceAdd, Nat.reduceLeDiff, Nat.reduceBEq, Nat.reduceEqDiff, reduceIte, reduceCtorEq, Nat.reduceSub, Int.reduceBEq, Int.reduceSub, Int.reduceAdd, Int.reduceToNat, Int.reduceLT, Int.reduceLE, Int.reduceEq, Int.reduceNeg, Int.reduceBNe, Int.reduceGT, Int.reduceGE, Nat.reduceMul, Nat.reduceMod, Nat.reduceDiv]
  · rw [if_neg hn0]
    refine Gives.no (t := 0) ?_
    simp only [rinner_k3, rinner_b, rinner_rs, Try.f90, hk, hs, rnumber_ok, ints_len, show (arity 5 != ((0 : Nat) : Int)) = false from rfl, bne_no hn0, F.EVT, Am.splice, Am.enterN, Am.freshMem, Am.cA, Am.cB, Am.cK, Am.cL, Am.cS, Am.cT, Am.cE, Am.aresults, Am.aresult, Am.codeKey, Am.frzTop, Am.spliceP, Nat.reduceAdd, Nat.reduceLeDiff, Nat.reduceBEq, Nat.reduceEqDiff, reduceIte, reduceCtorEq, Nat.reduceSub, Int.reduceBEq, Int.reduceSub, Int.reduceAdd, Int.reduceToNat, Int.reduceLT, Int.reduceLE, Int.reduceEq, Int.reduceNeg, Int.reduceBNe, Int.reduceGT, Int.reduceGE, Nat.reduceMul, Nat.reduceMod, Nat.reduceDiv]
theorem rin_6 {fs : List Fn} {cols params : List Int} {e : E} {ts : List Int} (hs : (e.s.toList == (ByteArray.mk #[]).toList) = true) (hk : e.op = 6) (hts : ts.length = e.args.length) (ha : arity 6 = ts.length) : RinGoal fs cols params e ts (tyArgs cols params 6 e.n e.s ts) := by
  unfold RinGoal
  rw [rinner_e3]; simp only [rinner_l3, rinner_b, rinner_rs, Try.f90, Int.lt_irrefl, hts, F.EVT, Am.splice, Am.enterN, Am.freshMem, Am.cA, Am.cB, Am.cK, Am.cL, Am.cS, Am.cT, Am.cE, Am.aresults, Am.aresult, Am.codeKey, Am.frzTop, Am.spliceP, Nat.reduceAdd, Nat.reduceLeDiff, Nat.reduceBEq, Nat.reduceEqDiff, reduceIte, reduceCtorEq, Nat.reduceSub, Int.reduceBEq, Int.reduceSub, Int.reduceAdd, Int.reduceToNat, Int.reduceLT, Int.reduceLE, Int.reduceEq, Int.reduceNeg, Int.reduceBNe, Int.reduceGT, Int.reduceGE, Nat.reduceMul, Nat.reduceMod, Nat.reduceDiv]
  clear hts
  obtain ⟨a, rfl⟩ := len1 (l := ts) (by have h0 : arity 6 = 1 := rfl; omega)
  show Gives _ (if e.n = 0 then (if a = 2 then some 2 else none) else none)
  by_cases hn0 : e.n = 0
  · rw [if_pos hn0]
    by_cases h1 : a = 2
    · rw [if_pos h1]
      subst h1
      refine Gives.yes (t := 2) ?_
      simp only [rinner_k3, rinner_b, rinner_rs, Try.f90, hk, hs, rnumber_ok, ints_len, show (arity 6 != ((1 : Nat) : Int)) = false from rfl, hn0, mk_1, F.EVT, Am.splice, Am.enterN, Am.freshMem, Am.cA, Am.cB, Am.cK, Am.cL, Am.cS, Am.cT, Am.cE, Am.aresults, Am.aresult, Am.codeKey, Am.frzTop, Am.spliceP, Nat.reduceAdd, Nat.reduceLeDiff, Nat.reduceBEq, Nat.reduceEqDiff, reduceIte, reduceCtorEq, Nat.reduceSub, Int.reduceBEq, Int.reduceSub, Int.reduceAdd, Int.reduceToNat, Int.reduceLT, Int.reduceLE, Int.reduceEq, Int.reduceNeg, Int.reduceBNe, Int.reduceGT, Int.reduceGE, Nat.reduceMul, Nat.reduceMod, Nat.reduceDiv]
    · rw [if_neg h1]
      refine Gives.no (t := 2) ?_
      simp only [rinner_k3, rinner_b, rinner_rs, Try.f90, hk, hs, rnumber_ok, ints_len, show (arity 6 != ((1 : Nat) : Int)) = false from rfl, hn0, mk_1, beq_no h1, F.EVT, Am.splice, Am.enterN, Am.freshMem, Am.cA, Am.cB, Am.cK, Am.cL, Am.cS, Am.cT, Am.cE, Am.aresults, Am.aresult, Am.codeKey, Am.frzTop, Am.spliceP, Nat.reduceAdd, Nat.reduceLeDiff, Nat.reduceBEq, Nat.reduceEqDiff, reduceIte, reduceCtorEq, Nat.reduceSub, Int.reduceBEq, Int.reduceSub, Int.reduceAdd, Int.reduceToNat, Int.reduceLT, Int.reduceLE, Int.reduceEq, Int.reduceNeg, Int.reduceBNe, Int.reduceGT, Int.reduceGE, Nat.reduceMul, Nat.reduceMod, Nat.reduceDiv]
  · rw [if_neg hn0]
    refine Gives.no (t := 0) ?_
    simp only [rinner_k3, rinner_b, rinner_rs, Try.f90, hk, hs, rnumber_ok, ints_len, show (arity 6 != ((1 : Nat) : Int)) = false from rfl, bne_no hn0, F.EVT, Am.splice, Am.enterN, Am.freshMem, Am.cA, Am.cB, Am.cK, Am.cL, Am.cS, Am.cT, Am.cE, Am.aresults, Am.aresult, Am.codeKey, Am.frzTop, Am.spliceP, Nat.reduceAdd, Nat.reduceLeDiff, Nat.reduceBEq, Nat.reduceEqDiff, reduceIte, reduceCtorEq, Nat.reduceSub, Int.reduceBEq, Int.reduceSub, Int.reduceAdd, Int.reduceToNat, Int.reduceLT, Int.reduceLE, Int.reduceEq, Int.reduceNeg, Int.reduceBNe, Int.reduceGT, Int.reduceGE, Nat.reduceMul, Nat.reduceMod, Nat.reduceDiv]
theorem rin_7 {fs : List Fn} {cols params : List Int} {e : E} {ts : List Int} (hs : (e.s.toList == (ByteArray.mk #[]).toList) = true) (hk : e.op = 7) (hts : ts.length = e.args.length) (ha : arity 7 = ts.length) : RinGoal fs cols params e ts (tyArgs cols params 7 e.n e.s ts) := by
  unfold RinGoal
  rw [rinner_e3]; simp only [rinner_l3, rinner_b, rinner_rs, Try.f90, Int.lt_irrefl, hts, F.EVT, Am.splice, Am.enterN, Am.freshMem, Am.cA, Am.cB, Am.cK, Am.cL, Am.cS, Am.cT, Am.cE, Am.aresults, Am.aresult, Am.codeKey, Am.frzTop, Am.spliceP, Nat.reduceAdd, Nat.reduceLeDiff, Nat.reduceBEq, Nat.reduceEqDiff, reduceIte, reduceCtorEq, Nat.reduceSub, Int.reduceBEq, Int.reduceSub, Int.reduceAdd, Int.reduceToNat, Int.reduceLT, Int.reduceLE, Int.reduceEq, Int.reduceNeg, Int.reduceBNe, Int.reduceGT, Int.reduceGE, Nat.reduceMul, Nat.reduceMod, Nat.reduceDiv]
  clear hts
  obtain ⟨a, rfl⟩ := len1 (l := ts) (by have h0 : arity 7 = 1 := rfl; omega)
  show Gives _ (if e.n = 0 then (if a = 0 then some 0 else none) else none)
  by_cases hn0 : e.n = 0
  · rw [if_pos hn0]
    by_cases h1 : a = 0
    · rw [if_pos h1]
      subst h1
      refine Gives.yes (t := 0) ?_
      simp only [rinner_k3, rinner_b, rinner_rs, Try.f90, hk, hs, rnumber_ok, ints_len, show (arity 7 != ((1 : Nat) : Int)) = false from rfl, hn0, mk_1, F.EVT, Am.splice, Am.enterN, Am.freshMem, Am.cA, Am.cB, Am.cK, Am.cL, Am.cS, Am.cT, Am.cE, Am.aresults, Am.aresult, Am.codeKey, Am.frzTop, Am.spliceP, Nat.reduceAdd, Nat.reduceLeDiff, Nat.reduceBEq, Nat.reduceEqDiff, reduceIte, reduceCtorEq, Nat.reduceSub, Int.reduceBEq, Int.reduceSub, Int.reduceAdd, Int.reduceToNat, Int.reduceLT, Int.reduceLE, Int.reduceEq, Int.reduceNeg, Int.reduceBNe, Int.reduceGT, Int.reduceGE, Nat.reduceMul, Nat.reduceMod, Nat.reduceDiv]
    · rw [if_neg h1]
      refine Gives.no (t := 0) ?_
      simp only [rinner_k3, rinner_b, rinner_rs, Try.f90, hk, hs, rnumber_ok, ints_len, show (arity 7 != ((1 : Nat) : Int)) = false from rfl, hn0, mk_1, beq_no h1, F.EVT, Am.splice, Am.enterN, Am.freshMem, Am.cA, Am.cB, Am.cK, Am.cL, Am.cS, Am.cT, Am.cE, Am.aresults, Am.aresult, Am.codeKey, Am.frzTop, Am.spliceP, Nat.reduceAdd, Nat.reduceLeDiff, Nat.reduceBEq, Nat.reduceEqDiff, reduceIte, reduceCtorEq, Nat.reduceSub, Int.reduceBEq, Int.reduceSub, Int.reduceAdd, Int.reduceToNat, Int.reduceLT, Int.reduceLE, Int.reduceEq, Int.reduceNeg, Int.reduceBNe, Int.reduceGT, Int.reduceGE, Nat.reduceMul, Nat.reduceMod, Nat.reduceDiv]
  · rw [if_neg hn0]
    refine Gives.no (t := 0) ?_
    simp only [rinner_k3, rinner_b, rinner_rs, Try.f90, hk, hs, rnumber_ok, ints_len, show (arity 7 != ((1 : Nat) : Int)) = false from rfl, bne_no hn0, F.EVT, Am.splice, Am.enterN, Am.freshMem, Am.cA, Am.cB, Am.cK, Am.cL, Am.cS, Am.cT, Am.cE, Am.aresults, Am.aresult, Am.codeKey, Am.frzTop, Am.spliceP, Nat.reduceAdd, Nat.reduceLeDiff, Nat.reduceBEq, Nat.reduceEqDiff, reduceIte, reduceCtorEq, Nat.reduceSub, Int.reduceBEq, Int.reduceSub, Int.reduceAdd, Int.reduceToNat, Int.reduceLT, Int.reduceLE, Int.reduceEq, Int.reduceNeg, Int.reduceBNe, Int.reduceGT, Int.reduceGE, Nat.reduceMul, Nat.reduceMod, Nat.reduceDiv]
theorem rin_8 {fs : List Fn} {cols params : List Int} {e : E} {ts : List Int} (hs : (e.s.toList == (ByteArray.mk #[]).toList) = true) (hk : e.op = 8) (hts : ts.length = e.args.length) (ha : arity 8 = ts.length) : RinGoal fs cols params e ts (tyArgs cols params 8 e.n e.s ts) := by
  unfold RinGoal
  rw [rinner_e3]; simp only [rinner_l3, rinner_b, rinner_rs, Try.f90, Int.lt_irrefl, hts, F.EVT, Am.splice, Am.enterN, Am.freshMem, Am.cA, Am.cB, Am.cK, Am.cL, Am.cS, Am.cT, Am.cE, Am.aresults, Am.aresult, Am.codeKey, Am.frzTop, Am.spliceP, Nat.reduceAdd, Nat.reduceLeDiff, Nat.reduceBEq, Nat.reduceEqDiff, reduceIte, reduceCtorEq, Nat.reduceSub, Int.reduceBEq, Int.reduceSub, Int.reduceAdd, Int.reduceToNat, Int.reduceLT, Int.reduceLE, Int.reduceEq, Int.reduceNeg, Int.reduceBNe, Int.reduceGT, Int.reduceGE, Nat.reduceMul, Nat.reduceMod, Nat.reduceDiv]
  clear hts
  obtain ⟨a, b, rfl⟩ := len2 (l := ts) (by have h0 : arity 8 = 2 := rfl; omega)
  show Gives _ (if e.n = 0 then (if a = 0 ∧ b = 0 then some 0 else none) else none)
  by_cases hn0 : e.n = 0
  · rw [if_pos hn0]
    by_cases h1 : a = 0
    · by_cases h2 : b = 0
      · rw [if_pos ⟨h1, h2⟩]
        subst h1; subst h2
        refine Gives.yes (t := 0) ?_
        simp only [rinner_k3, rinner_b, rinner_rs, Try.f90, hk, hs, rnumber_ok, ints_len, show (arity 8 != ((2 : Nat) : Int)) = false from rfl, hn0, mk_20, mk_21, F.EVT, Am.splice, Am.enterN, Am.freshMem, Am.cA, Am.cB, Am.cK, Am.cL, Am.cS, Am.cT, Am.cE, Am.aresults, Am.aresult, Am.codeKey, Am.frzTop, Am.spliceP, Nat.reduceAdd, Nat.reduceLeDiff, Nat.reduceBEq, Nat.reduceEqDiff, reduceIte, reduceCtorEq, Nat.reduceSub, Int.reduceBEq, Int.reduceSub, Int.reduceAdd, Int.reduceToNat, Int.reduceLT, Int.reduceLE, Int.reduceEq, Int.reduceNeg, Int.reduceBNe, Int.reduceGT, Int.reduceGE, Nat.reduceMul, Nat.reduceMod, Nat.reduceDiv]
      · rw [if_neg (fun q => h2 q.2)]
        subst h1
        refine Gives.no (t := 0) ?_
        simp only [rinner_k3, rinner_b, rinner_rs, Try.f90, hk, hs, rnumber_ok, ints_len, show (arity 8 != ((2 : Nat) : Int)) = false from rfl, hn0, mk_20, mk_21, beq_no h2, F.EVT, Am.splice, Am.enterN, Am.freshMem, Am.cA, Am.cB, Am.cK, Am.cL, Am.cS, Am.cT, Am.cE, Am.aresults, Am.aresult, Am.codeKey, Am.frzTop, Am.spliceP, Nat.reduceAdd, Nat.reduceLeDiff, Nat.reduceBEq, Nat.reduceEqDiff, reduceIte, reduceCtorEq, Nat.reduceSub, Int.reduceBEq, Int.reduceSub, Int.reduceAdd, Int.reduceToNat, Int.reduceLT, Int.reduceLE, Int.reduceEq, Int.reduceNeg, Int.reduceBNe, Int.reduceGT, Int.reduceGE, Nat.reduceMul, Nat.reduceMod, Nat.reduceDiv]
    · rw [if_neg (fun q => h1 q.1)]
      refine Gives.no (t := 0) ?_
      simp only [rinner_k3, rinner_b, rinner_rs, Try.f90, hk, hs, rnumber_ok, ints_len, show (arity 8 != ((2 : Nat) : Int)) = false from rfl, hn0, mk_20, mk_21, beq_no h1, F.EVT, Am.splice, Am.enterN, Am.freshMem, Am.cA, Am.cB, Am.cK, Am.cL, Am.cS, Am.cT, Am.cE, Am.aresults, Am.aresult, Am.codeKey, Am.frzTop, Am.spliceP, Nat.reduceAdd, Nat.reduceLeDiff, Nat.reduceBEq, Nat.reduceEqDiff, reduceIte, reduceCtorEq, Nat.reduceSub, Int.reduceBEq, Int.reduceSub, Int.reduceAdd, Int.reduceToNat, Int.reduceLT, Int.reduceLE, Int.reduceEq, Int.reduceNeg, Int.reduceBNe, Int.reduceGT, Int.reduceGE, Nat.reduceMul, Nat.reduceMod, Nat.reduceDiv]
  · rw [if_neg hn0]
    refine Gives.no (t := 0) ?_
    simp only [rinner_k3, rinner_b, rinner_rs, Try.f90, hk, hs, rnumber_ok, ints_len, show (arity 8 != ((2 : Nat) : Int)) = false from rfl, bne_no hn0, F.EVT, Am.splice, Am.enterN, Am.freshMem, Am.cA, Am.cB, Am.cK, Am.cL, Am.cS, Am.cT, Am.cE, Am.aresults, Am.aresult, Am.codeKey, Am.frzTop, Am.spliceP, Nat.reduceAdd, Nat.reduceLeDiff, Nat.reduceBEq, Nat.reduceEqDiff, reduceIte, reduceCtorEq, Nat.reduceSub, Int.reduceBEq, Int.reduceSub, Int.reduceAdd, Int.reduceToNat, Int.reduceLT, Int.reduceLE, Int.reduceEq, Int.reduceNeg, Int.reduceBNe, Int.reduceGT, Int.reduceGE, Nat.reduceMul, Nat.reduceMod, Nat.reduceDiv]
theorem rin_9 {fs : List Fn} {cols params : List Int} {e : E} {ts : List Int} (hs : (e.s.toList == (ByteArray.mk #[]).toList) = true) (hk : e.op = 9) (hts : ts.length = e.args.length) (ha : arity 9 = ts.length) : RinGoal fs cols params e ts (tyArgs cols params 9 e.n e.s ts) := by
  unfold RinGoal
  rw [rinner_e3]; simp only [rinner_l3, rinner_b, rinner_rs, Try.f90, Int.lt_irrefl, hts, F.EVT, Am.splice, Am.enterN, Am.freshMem, Am.cA, Am.cB, Am.cK, Am.cL, Am.cS, Am.cT, Am.cE, Am.aresults, Am.aresult, Am.codeKey, Am.frzTop, Am.spliceP, Nat.reduceAdd, Nat.reduceLeDiff, Nat.reduceBEq, Nat.reduceEqDiff, reduceIte, reduceCtorEq, Nat.reduceSub, Int.reduceBEq, Int.reduceSub, Int.reduceAdd, Int.reduceToNat, Int.reduceLT, Int.reduceLE, Int.reduceEq, Int.reduceNeg, Int.reduceBNe, Int.reduceGT, Int.reduceGE, Nat.reduceMul, Nat.reduceMod, Nat.reduceDiv]
  clear hts
  obtain ⟨a, b, rfl⟩ := len2 (l := ts) (by have h0 : arity 9 = 2 := rfl; omega)
  show Gives _ (if e.n = 0 then (if a = 0 ∧ b = 0 then some 0 else none) else none)
  by_cases hn0 : e.n = 0
  · rw [if_pos hn0]
    by_cases h1 : a = 0
    · by_cases h2 : b = 0
      · rw [if_pos ⟨h1, h2⟩]
        subst h1; subst h2
        refine Gives.yes (t := 0) ?_
        simp only [rinner_k3, rinner_b, rinner_rs, Try.f90, hk, hs, rnumber_ok, ints_len, show (arity 9 != ((2 : Nat) : Int)) = false from rfl, hn0, mk_20, mk_21, F.EVT, Am.splice, Am.enterN, Am.freshMem, Am.cA, Am.cB, Am.cK, Am.cL, Am.cS, Am.cT, Am.cE, Am.aresults, Am.aresult, Am.codeKey, Am.frzTop, Am.spliceP, Nat.reduceAdd, Nat.reduceLeDiff, Nat.reduceBEq, Nat.reduceEqDiff, reduceIte, reduceCtorEq, Nat.reduceSub, Int.reduceBEq, Int.reduceSub, Int.reduceAdd, Int.reduceToNat, Int.reduceLT, Int.reduceLE, Int.reduceEq, Int.reduceNeg, Int.reduceBNe, Int.reduceGT, Int.reduceGE, Nat.reduceMul, Nat.reduceMod, Nat.reduceDiv]
      · rw [if_neg (fun q => h2 q.2)]
        subst h1
        refine Gives.no (t := 0) ?_
        simp only [rinner_k3, rinner_b, rinner_rs, Try.f90, hk, hs, rnumber_ok, ints_len, show (arity 9 != ((2 : Nat) : Int)) = false from rfl, hn0, mk_20, mk_21, beq_no h2, F.EVT, Am.splice, Am.enterN, Am.freshMem, Am.cA, Am.cB, Am.cK, Am.cL, Am.cS, Am.cT, Am.cE, Am.aresults, Am.aresult, Am.codeKey, Am.frzTop, Am.spliceP, Nat.reduceAdd, Nat.reduceLeDiff, Nat.reduceBEq, Nat.reduceEqDiff, reduceIte, reduceCtorEq, Nat.reduceSub, Int.reduceBEq, Int.reduceSub, Int.reduceAdd, Int.reduceToNat, Int.reduceLT, Int.reduceLE, Int.reduceEq, Int.reduceNeg, Int.reduceBNe, Int.reduceGT, Int.reduceGE, Nat.reduceMul, Nat.reduceMod, Nat.reduceDiv]
    · rw [if_neg (fun q => h1 q.1)]
      refine Gives.no (t := 0) ?_
      simp only [rinner_k3, rinner_b, rinner_rs, Try.f90, hk, hs, rnumber_ok, ints_len, show (arity 9 != ((2 : Nat) : Int)) = false from rfl, hn0, mk_20, mk_21, beq_no h1, F.EVT, Am.splice, Am.enterN, Am.freshMem, Am.cA, Am.cB, Am.cK, Am.cL, Am.cS, Am.cT, Am.cE, Am.aresults, Am.aresult, Am.codeKey, Am.frzTop, Am.spliceP, Nat.reduceAdd, Nat.reduceLeDiff, Nat.reduceBEq, Nat.reduceEqDiff, reduceIte, reduceCtorEq, Nat.reduceSub, Int.reduceBEq, Int.reduceSub, Int.reduceAdd, Int.reduceToNat, Int.reduceLT, Int.reduceLE, Int.reduceEq, Int.reduceNeg, Int.reduceBNe, Int.reduceGT, Int.reduceGE, Nat.reduceMul, Nat.reduceMod, Nat.reduceDiv]
  · rw [if_neg hn0]
    refine Gives.no (t := 0) ?_
    simp only [rinner_k3, rinner_b, rinner_rs, Try.f90, hk, hs, rnumber_ok, ints_len, show (arity 9 != ((2 : Nat) : Int)) = false from rfl, bne_no hn0, F.EVT, Am.splice, Am.enterN, Am.freshMem, Am.cA, Am.cB, Am.cK, Am.cL, Am.cS, Am.cT, Am.cE, Am.aresults, Am.aresult, Am.codeKey, Am.frzTop, Am.spliceP, Nat.reduceAdd, Nat.reduceLeDiff, Nat.reduceBEq, Nat.reduceEqDiff, reduceIte, reduceCtorEq, Nat.reduceSub, Int.reduceBEq, Int.reduceSub, Int.reduceAdd, Int.reduceToNat, Int.reduceLT, Int.reduceLE, Int.reduceEq, Int.reduceNeg, Int.reduceBNe, Int.reduceGT, Int.reduceGE, Nat.reduceMul, Nat.reduceMod, Nat.reduceDiv]
theorem rin_10 {fs : List Fn} {cols params : List Int} {e : E} {ts : List Int} (hs : (e.s.toList == (ByteArray.mk #[]).toList) = true) (hk : e.op = 10) (hts : ts.length = e.args.length) (ha : arity 10 = ts.length) : RinGoal fs cols params e ts (tyArgs cols params 10 e.n e.s ts) := by
  unfold RinGoal
  rw [rinner_e3]; simp only [rinner_l3, rinner_b, rinner_rs, Try.f90, Int.lt_irrefl, hts, F.EVT, Am.splice, Am.enterN, Am.freshMem, Am.cA, Am.cB, Am.cK, Am.cL, Am.cS, Am.cT, Am.cE, Am.aresults, Am.aresult, Am.codeKey, Am.frzTop, Am.spliceP, Nat.reduceAdd, Nat.reduceLeDiff, Nat.reduceBEq, Nat.reduceEqDiff, reduceIte, reduceCtorEq, Nat.reduceSub, Int.reduceBEq, Int.reduceSub, Int.reduceAdd, Int.reduceToNat, Int.reduceLT, Int.reduceLE, Int.reduceEq, Int.reduceNeg, Int.reduceBNe, Int.reduceGT, Int.reduceGE, Nat.reduceMul, Nat.reduceMod, Nat.reduceDiv]
  clear hts
  obtain ⟨a, b, rfl⟩ := len2 (l := ts) (by have h0 : arity 10 = 2 := rfl; omega)
  show Gives _ (if e.n = 0 then (if a = 0 ∧ b = 0 then some 0 else none) else none)
  by_cases hn0 : e.n = 0
  · rw [if_pos hn0]
    by_cases h1 : a = 0
    · by_cases h2 : b = 0
      · rw [if_pos ⟨h1, h2⟩]
        subst h1; subst h2
        refine Gives.yes (t := 0) ?_
        simp only [rinner_k3, rinner_b, rinner_rs, Try.f90, hk, hs, rnumber_ok, ints_len, show (arity 10 != ((2 : Nat) : Int)) = false from rfl, hn0, mk_20, mk_21, F.EVT, Am.splice, Am.enterN, Am.freshMem, Am.cA, Am.cB, Am.cK, Am.cL, Am.cS, Am.cT, Am.cE, Am.aresults, Am.aresult, Am.codeKey, Am.frzTop, Am.spliceP, Nat.reduceAdd, Nat.reduceLeDiff, Nat.reduceBEq, Nat.reduceEqDiff, reduceIte, reduceCtorEq, Nat.reduceSub, Int.reduceBEq, Int.reduceSub, Int.reduceAdd, Int.reduceToNat, Int.reduceLT, Int.reduceLE, Int.reduceEq, Int.reduceNeg, Int.reduceBNe, Int.reduceGT, Int.reduceGE, Nat.reduceMul, Nat.reduceMod, Nat.reduceDiv]
      · rw [if_neg (fun q => h2 q.2)]
        subst h1
        refine Gives.no (t := 0) ?_
        simp only [rinner_k3, rinner_b, rinner_rs, Try.f90, hk, hs, rnumber_ok, ints_len, show (arity 10 != ((2 : Nat) : Int)) = false from rfl, hn0, mk_20, mk_21, beq_no h2, F.EVT, Am.splice, Am.enterN, Am.freshMem, Am.cA, Am.cB, Am.cK, Am.cL, Am.cS, Am.cT, Am.cE, Am.aresults, Am.aresult, Am.codeKey, Am.frzTop, Am.spliceP, Nat.reduceAdd, Nat.reduceLeDiff, Nat.reduceBEq, Nat.reduceEqDiff, reduceIte, reduceCtorEq, Nat.reduceSub, Int.reduceBEq, Int.reduceSub, Int.reduceAdd, Int.reduceToNat, Int.reduceLT, Int.reduceLE, Int.reduceEq, Int.reduceNeg, Int.reduceBNe, Int.reduceGT, Int.reduceGE, Nat.reduceMul, Nat.reduceMod, Nat.reduceDiv]
    · rw [if_neg (fun q => h1 q.1)]
      refine Gives.no (t := 0) ?_
      simp only [rinner_k3, rinner_b, rinner_rs, Try.f90, hk, hs, rnumber_ok, ints_len, show (arity 10 != ((2 : Nat) : Int)) = false from rfl, hn0, mk_20, mk_21, beq_no h1, F.EVT, Am.splice, Am.enterN, Am.freshMem, Am.cA, Am.cB, Am.cK, Am.cL, Am.cS, Am.cT, Am.cE, Am.aresults, Am.aresult, Am.codeKey, Am.frzTop, Am.spliceP, Nat.reduceAdd, Nat.reduceLeDiff, Nat.reduceBEq, Nat.reduceEqDiff, reduceIte, reduceCtorEq, Nat.reduceSub, Int.reduceBEq, Int.reduceSub, Int.reduceAdd, Int.reduceToNat, Int.reduceLT, Int.reduceLE, Int.reduceEq, Int.reduceNeg, Int.reduceBNe, Int.reduceGT, Int.reduceGE, Nat.reduceMul, Nat.reduceMod, Nat.reduceDiv]
  · rw [if_neg hn0]
    refine Gives.no (t := 0) ?_
    simp only [rinner_k3, rinner_b, rinner_rs, Try.f90, hk, hs, rnumber_ok, ints_len, show (arity 10 != ((2 : Nat) : Int)) = false from rfl, bne_no hn0, F.EVT, Am.splice, Am.enterN, Am.freshMem, Am.cA, Am.cB, Am.cK, Am.cL, Am.cS, Am.cT, Am.cE, Am.aresults, Am.aresult, Am.codeKey, Am.frzTop, Am.spliceP, Nat.reduceAdd, Nat.reduceLeDiff, Nat.reduceBEq, Nat.reduceEqDiff, reduceIte, reduceCtorEq, Nat.reduceSub, Int.reduceBEq, Int.reduceSub, Int.reduceAdd, Int.reduceToNat, Int.reduceLT, Int.reduceLE, Int.reduceEq, Int.reduceNeg, Int.reduceBNe, Int.reduceGT, Int.reduceGE, Nat.reduceMul, Nat.reduceMod, Nat.reduceDiv]
theorem rin_11 {fs : List Fn} {cols params : List Int} {e : E} {ts : List Int} (hs : (e.s.toList == (ByteArray.mk #[]).toList) = true) (hk : e.op = 11) (hts : ts.length = e.args.length) (ha : arity 11 = ts.length) : RinGoal fs cols params e ts (tyArgs cols params 11 e.n e.s ts) := by
  unfold RinGoal
  rw [rinner_e3]; simp only [rinner_l3, rinner_b, rinner_rs, Try.f90, Int.lt_irrefl, hts, F.EVT, Am.splice, Am.enterN, Am.freshMem, Am.cA, Am.cB, Am.cK, Am.cL, Am.cS, Am.cT, Am.cE, Am.aresults, Am.aresult, Am.codeKey, Am.frzTop, Am.spliceP, Nat.reduceAdd, Nat.reduceLeDiff, Nat.reduceBEq, Nat.reduceEqDiff, reduceIte, reduceCtorEq, Nat.reduceSub, Int.reduceBEq, Int.reduceSub, Int.reduceAdd, Int.reduceToNat, Int.reduceLT, Int.reduceLE, Int.reduceEq, Int.reduceNeg, Int.reduceBNe, Int.reduceGT, Int.reduceGE, Nat.reduceMul, Nat.reduceMod, Nat.reduceDiv]
  clear hts
  obtain ⟨a, b, rfl⟩ := len2 (l := ts) (by have h0 : arity 11 = 2 := rfl; omega)
  show Gives _ (if e.n = 0 then (if a = 0 ∧ b = 0 then some 0 else none) else none)
  by_cases hn0 : e.n = 0
  · rw [if_pos hn0]
    by_cases h1 : a = 0
    · by_cases h2 : b = 0
      · rw [if_pos ⟨h1, h2⟩]
        subst h1; subst h2
        refine Gives.yes (t := 0) ?_
        simp only [rinner_k3, rinner_b, rinner_rs, Try.f90, hk, hs, rnumber_ok, ints_len, show (arity 11 != ((2 : Nat) : Int)) = false from rfl, hn0, mk_20, mk_21, F.EVT, Am.splice, Am.enterN, Am.freshMem, Am.cA, Am.cB, Am.cK, Am.cL, Am.cS, Am.cT, Am.cE, Am.aresults, Am.aresult, Am.codeKey, Am.frzTop, Am.spliceP, Nat.reduceAdd, Nat.reduceLeDiff, Nat.reduceBEq, Nat.reduceEqDiff, reduceIte, reduceCtorEq, Nat.reduceSub, Int.reduceBEq, Int.reduceSub, Int.reduceAdd, Int.reduceToNat, Int.reduceLT, Int.reduceLE, Int.reduceEq, Int.reduceNeg, Int.reduceBNe, Int.reduceGT, Int.reduceGE, Nat.reduceMul, Nat.reduceMod, Nat.reduceDiv]
      · rw [if_neg (fun q => h2 q.2)]
        subst h1
        refine Gives.no (t := 0) ?_
        simp only [rinner_k3, rinner_b, rinner_rs, Try.f90, hk, hs, rnumber_ok, ints_len, show (arity 11 != ((2 : Nat) : Int)) = false from rfl, hn0, mk_20, mk_21, beq_no h2, F.EVT, Am.splice, Am.enterN, Am.freshMem, Am.cA, Am.cB, Am.cK, Am.cL, Am.cS, Am.cT, Am.cE, Am.aresults, Am.aresult, Am.codeKey, Am.frzTop, Am.spliceP, Nat.reduceAdd, Nat.reduceLeDiff, Nat.reduceBEq, Nat.reduceEqDiff, reduceIte, reduceCtorEq, Nat.reduceSub, Int.reduceBEq, Int.reduceSub, Int.reduceAdd, Int.reduceToNat, Int.reduceLT, Int.reduceLE, Int.reduceEq, Int.reduceNeg, Int.reduceBNe, Int.reduceGT, Int.reduceGE, Nat.reduceMul, Nat.reduceMod, Nat.reduceDiv]
    · rw [if_neg (fun q => h1 q.1)]
      refine Gives.no (t := 0) ?_
      simp only [rinner_k3, rinner_b, rinner_rs, Try.f90, hk, hs, rnumber_ok, ints_len, show (arity 11 != ((2 : Nat) : Int)) = false from rfl, hn0, mk_20, mk_21, beq_no h1, F.EVT, Am.splice, Am.enterN, Am.freshMem, Am.cA, Am.cB, Am.cK, Am.cL, Am.cS, Am.cT, Am.cE, Am.aresults, Am.aresult, Am.codeKey, Am.frzTop, Am.spliceP, Nat.reduceAdd, Nat.reduceLeDiff, Nat.reduceBEq, Nat.reduceEqDiff, reduceIte, reduceCtorEq, Nat.reduceSub, Int.reduceBEq, Int.reduceSub, Int.reduceAdd, Int.reduceToNat, Int.reduceLT, Int.reduceLE, Int.reduceEq, Int.reduceNeg, Int.reduceBNe, Int.reduceGT, Int.reduceGE, Nat.reduceMul, Nat.reduceMod, Nat.reduceDiv]
  · rw [if_neg hn0]
    refine Gives.no (t := 0) ?_
    simp only [rinner_k3, rinner_b, rinner_rs, Try.f90, hk, hs, rnumber_ok, ints_len, show (arity 11 != ((2 : Nat) : Int)) = false from rfl, bne_no hn0, F.EVT, Am.splice, Am.enterN, Am.freshMem, Am.cA, Am.cB, Am.cK, Am.cL, Am.cS, Am.cT, Am.cE, Am.aresults, Am.aresult, Am.codeKey, Am.frzTop, Am.spliceP, Nat.reduceAdd, Nat.reduceLeDiff, Nat.reduceBEq, Nat.reduceEqDiff, reduceIte, reduceCtorEq, Nat.reduceSub, Int.reduceBEq, Int.reduceSub, Int.reduceAdd, Int.reduceToNat, Int.reduceLT, Int.reduceLE, Int.reduceEq, Int.reduceNeg, Int.reduceBNe, Int.reduceGT, Int.reduceGE, Nat.reduceMul, Nat.reduceMod, Nat.reduceDiv]
theorem rin_12 {fs : List Fn} {cols params : List Int} {e : E} {ts : List Int} (hs : (e.s.toList == (ByteArray.mk #[]).toList) = true) (hk : e.op = 12) (hts : ts.length = e.args.length) (ha : arity 12 = ts.length) : RinGoal fs cols params e ts (tyArgs cols params 12 e.n e.s ts) := by
  unfold RinGoal
  rw [rinner_e3]; simp only [rinner_l3, rinner_b, rinner_rs, Try.f90, Int.lt_irrefl, hts, F.EVT, Am.splice, Am.enterN, Am.freshMem, Am.cA, Am.cB, Am.cK, Am.cL, Am.cS, Am.cT, Am.cE, Am.aresults, Am.aresult, Am.codeKey, Am.frzTop, Am.spliceP, Nat.reduceAdd, Nat.reduceLeDiff, Nat.reduceBEq, Nat.reduceEqDiff, reduceIte, reduceCtorEq, Nat.reduceSub, Int.reduceBEq, Int.reduceSub, Int.reduceAdd, Int.reduceToNat, Int.reduceLT, Int.reduceLE, Int.reduceEq, Int.reduceNeg, Int.reduceBNe, Int.reduceGT, Int.reduceGE, Nat.reduceMul, Nat.reduceMod, Nat.reduceDiv]
  clear hts
  obtain ⟨a, b, rfl⟩ := len2 (l := ts) (by have h0 : arity 12 = 2 := rfl; omega)
  show Gives _ (if e.n = 0 then (if a = 0 ∧ b = 0 then some 0 else none) else none)
  by_cases hn0 : e.n = 0
  · rw [if_pos hn0]
    by_cases h1 : a = 0
    · by_cases h2 : b = 0
      · rw [if_pos ⟨h1, h2⟩]
        subst h1; subst h2
        refine Gives.yes (t := 0) ?_
        simp only [rinner_k3, rinner_b, rinner_rs, Try.f90, hk, hs, rnumber_ok, ints_len, show (arity 12 != ((2 : Nat) : Int)) = false from rfl, hn0, mk_20, mk_21, F.EVT, Am.splice, Am.enterN, Am.freshMem, Am.cA, Am.cB, Am.cK, Am.cL, Am.cS, Am.cT, Am.cE, Am.aresults, Am.aresult, Am.codeKey, Am.frzTop, Am.spliceP, Nat.reduceAdd, Nat.reduceLeDiff, Nat.reduceBEq, Nat.reduceEqDiff, reduceIte, reduceCtorEq, Nat.reduceSub, Int.reduceBEq, Int.reduceSub, Int.reduceAdd, Int.reduceToNat, Int.reduceLT, Int.reduceLE, Int.reduceEq, Int.reduceNeg, Int.reduceBNe, Int.reduceGT, Int.reduceGE, Nat.reduceMul, Nat.reduceMod, Nat.reduceDiv]
      · rw [if_neg (fun q => h2 q.2)]
        subst h1
        refine Gives.no (t := 0) ?_
        simp only [rinner_k3, rinner_b, rinner_rs, Try.f90, hk, hs, rnumber_ok, ints_len, show (arity 12 != ((2 : Nat) : Int)) = false from rfl, hn0, mk_20, mk_21, beq_no h2, F.EVT, Am.splice, Am.enterN, Am.freshMem, Am.cA, Am.cB, Am.cK, Am.cL, Am.cS, Am.cT, Am.cE, Am.aresults, Am.aresult, Am.codeKey, Am.frzTop, Am.spliceP, Nat.reduceAdd, Nat.reduceLeDiff, Nat.reduceBEq, Nat.reduceEqDiff, reduceIte, reduceCtorEq, Nat.reduceSub, Int.reduceBEq, Int.reduceSub, Int.reduceAdd, Int.reduceToNat, Int.reduceLT, Int.reduceLE, Int.reduceEq, Int.reduceNeg, Int.reduceBNe, Int.reduceGT, Int.reduceGE, Nat.reduceMul, Nat.reduceMod, Nat.reduceDiv]
    · rw [if_neg (fun q => h1 q.1)]
      refine Gives.no (t := 0) ?_
      simp only [rinner_k3, rinner_b, rinner_rs, Try.f90, hk, hs, rnumber_ok, ints_len, show (arity 12 != ((2 : Nat) : Int)) = false from rfl, hn0, mk_20, mk_21, beq_no h1, F.EVT, Am.splice, Am.enterN, Am.freshMem, Am.cA, Am.cB, Am.cK, Am.cL, Am.cS, Am.cT, Am.cE, Am.aresults, Am.aresult, Am.codeKey, Am.frzTop, Am.spliceP, Nat.reduceAdd, Nat.reduceLeDiff, Nat.reduceBEq, Nat.reduceEqDiff, reduceIte, reduceCtorEq, Nat.reduceSub, Int.reduceBEq, Int.reduceSub, Int.reduceAdd, Int.reduceToNat, Int.reduceLT, Int.reduceLE, Int.reduceEq, Int.reduceNeg, Int.reduceBNe, Int.reduceGT, Int.reduceGE, Nat.reduceMul, Nat.reduceMod, Nat.reduceDiv]
  · rw [if_neg hn0]
    refine Gives.no (t := 0) ?_
    simp only [rinner_k3, rinner_b, rinner_rs, Try.f90, hk, hs, rnumber_ok, ints_len, show (arity 12 != ((2 : Nat) : Int)) = false from rfl, bne_no hn0, F.EVT, Am.splice, Am.enterN, Am.freshMem, Am.cA, Am.cB, Am.cK, Am.cL, Am.cS, Am.cT, Am.cE, Am.aresults, Am.aresult, Am.codeKey, Am.frzTop, Am.spliceP, Nat.reduceAdd, Nat.reduceLeDiff, Nat.reduceBEq, Nat.reduceEqDiff, reduceIte, reduceCtorEq, Nat.reduceSub, Int.reduceBEq, Int.reduceSub, Int.reduceAdd, Int.reduceToNat, Int.reduceLT, Int.reduceLE, Int.reduceEq, Int.reduceNeg, Int.reduceBNe, Int.reduceGT, Int.reduceGE, Nat.reduceMul, Nat.reduceMod, Nat.reduceDiv]
theorem rin_13 {fs : List Fn} {cols params : List Int} {e : E} {ts : List Int} (hs : (e.s.toList == (ByteArray.mk #[]).toList) = true) (hk : e.op = 13) (hts : ts.length = e.args.length) (ha : arity 13 = ts.length) : RinGoal fs cols params e ts (tyArgs cols params 13 e.n e.s ts) := by
  unfold RinGoal
  rw [rinner_e3]; simp only [rinner_l3, rinner_b, rinner_rs, Try.f90, Int.lt_irrefl, hts, F.EVT, Am.splice, Am.enterN, Am.freshMem, Am.cA, Am.cB, Am.cK, Am.cL, Am.cS, Am.cT, Am.cE, Am.aresults, Am.aresult, Am.codeKey, Am.frzTop, Am.spliceP, Nat.reduceAdd, Nat.reduceLeDiff, Nat.reduceBEq, Nat.reduceEqDiff, reduceIte, reduceCtorEq, Nat.reduceSub, Int.reduceBEq, Int.reduceSub, Int.reduceAdd, Int.reduceToNat, Int.reduceLT, Int.reduceLE, Int.reduceEq, Int.reduceNeg, Int.reduceBNe, Int.reduceGT, Int.reduceGE, Nat.reduceMul, Nat.reduceMod, Nat.reduceDiv]
  clear hts
  obtain ⟨a, b, rfl⟩ := len2 (l := ts) (by have h0 : arity 13 = 2 := rfl; omega)
  show Gives _ (if e.n = 0 then (if a = b then some 2 else none) else none)
  by_cases hn0 : e.n = 0
  · rw [if_pos hn0]
    by_cases h1 : a = b
    · rw [if_pos h1]
      subst h1
      refine Gives.yes (t := 2) ?_
      simp only [rinner_k3, rinner_b, rinner_rs, Try.f90, hk, hs, rnumber_ok, ints_len, show (arity 13 != ((2 : Nat) : Int)) = false from rfl, hn0, mk_20, mk_21, beq_self_eq_true, F.EVT, Am.splice, Am.enterN, Am.freshMem, Am.cA, Am.cB, Am.cK, Am.cL, Am.cS, Am.cT, Am.cE, Am.aresults, Am.aresult, Am.codeKey, Am.frzTop, Am.spliceP, Nat.reduceAdd, Nat.reduceLeDiff, Nat.reduceBEq, Nat.reduceEqDiff, reduceIte, reduceCtorEq, Nat.reduceSub, Int.reduceBEq, Int.reduceSub, Int.reduceAdd, Int.reduceToNat, Int.reduceLT, Int.reduceLE, Int.reduceEq, Int.reduceNeg, Int.reduceBNe, Int.reduceGT, Int.reduceGE, Nat.reduceMul, Nat.reduceMod, Nat.reduceDiv]
    · rw [if_neg h1]
      refine Gives.no (t := 2) ?_
      simp only [rinner_k3, rinner_b, rinner_rs, Try.f90, hk, hs, rnumber_ok, ints_len, show (arity 13 != ((2 : Nat) : Int)) = false from rfl, hn0, mk_20, mk_21, beq_no h1, F.EVT, Am.splice, Am.enterN, Am.freshMem, Am.cA, Am.cB, Am.cK, Am.cL, Am.cS, Am.cT, Am.cE, Am.aresults, Am.aresult, Am.codeKey, Am.frzTop, Am.spliceP, Nat.reduceAdd, Nat.reduceLeDiff, Nat.reduceBEq, Nat.reduceEqDiff, reduceIte, reduceCtorEq, Nat.reduceSub, Int.reduceBEq, Int.reduceSub, Int.reduceAdd, Int.reduceToNat, Int.reduceLT, Int.reduceLE, Int.reduceEq, Int.reduceNeg, Int.reduceBNe, Int.reduceGT, Int.reduceGE, Nat.reduceMul, Nat.reduceMod, Nat.reduceDiv]
  · rw [if_neg hn0]
    refine Gives.no (t := 0) ?_
    simp only [rinner_k3, rinner_b, rinner_rs, Try.f90, hk, hs, rnumber_ok, ints_len, show (arity 13 != ((2 : Nat) : Int)) = false from rfl, bne_no hn0, F.EVT, Am.splice, Am.enterN, Am.freshMem, Am.cA, Am.cB, Am.cK, Am.cL, Am.cS, Am.cT, Am.cE, Am.aresults, Am.aresult, Am.codeKey, Am.frzTop, Am.spliceP, Nat.reduceAdd, Nat.reduceLeDiff, Nat.reduceBEq, Nat.reduceEqDiff, reduceIte, reduceCtorEq, Nat.reduceSub, Int.reduceBEq, Int.reduceSub, Int.reduceAdd, Int.reduceToNat, Int.reduceLT, Int.reduceLE, Int.reduceEq, Int.reduceNeg, Int.reduceBNe, Int.reduceGT, Int.reduceGE, Nat.reduceMul, Nat.reduceMod, Nat.reduceDiv]
theorem rin_14 {fs : List Fn} {cols params : List Int} {e : E} {ts : List Int} (hs : (e.s.toList == (ByteArray.mk #[]).toList) = true) (hk : e.op = 14) (hts : ts.length = e.args.length) (ha : arity 14 = ts.length) : RinGoal fs cols params e ts (tyArgs cols params 14 e.n e.s ts) := by
  unfold RinGoal
  rw [rinner_e3]; simp only [rinner_l3, rinner_b, rinner_rs, Try.f90, Int.lt_irrefl, hts, F.EVT, Am.splice, Am.enterN, Am.freshMem, Am.cA, Am.cB, Am.cK, Am.cL, Am.cS, Am.cT, Am.cE, Am.aresults, Am.aresult, Am.codeKey, Am.frzTop, Am.spliceP, Nat.reduceAdd, Nat.reduceLeDiff, Nat.reduceBEq, Nat.reduceEqDiff, reduceIte, reduceCtorEq, Nat.reduceSub, Int.reduceBEq, Int.reduceSub, Int.reduceAdd, Int.reduceToNat, Int.reduceLT, Int.reduceLE, Int.reduceEq, Int.reduceNeg, Int.reduceBNe, Int.reduceGT, Int.reduceGE, Nat.reduceMul, Nat.reduceMod, Nat.reduceDiv]
  clear hts
  obtain ⟨a, b, rfl⟩ := len2 (l := ts) (by have h0 : arity 14 = 2 := rfl; omega)
  show Gives _ (if e.n = 0 then (if a = b then some 2 else none) else none)
  by_cases hn0 : e.n = 0
  · rw [if_pos hn0]
    by_cases h1 : a = b
    · rw [if_pos h1]
      subst h1
      refine Gives.yes (t := 2) ?_
      simp only [rinner_k3, rinner_b, rinner_rs, Try.f90, hk, hs, rnumber_ok, ints_len, show (arity 14 != ((2 : Nat) : Int)) = false from rfl, hn0, mk_20, mk_21, beq_self_eq_true, F.EVT, Am.splice, Am.enterN, Am.freshMem, Am.cA, Am.cB, Am.cK, Am.cL, Am.cS, Am.cT, Am.cE, Am.aresults, Am.aresult, Am.codeKey, Am.frzTop, Am.spliceP, Nat.reduceAdd, Nat.reduceLeDiff, Nat.reduceBEq, Nat.reduceEqDiff, reduceIte, reduceCtorEq, Nat.reduceSub, Int.reduceBEq, Int.reduceSub, Int.reduceAdd, Int.reduceToNat, Int.reduceLT, Int.reduceLE, Int.reduceEq, Int.reduceNeg, Int.reduceBNe, Int.reduceGT, Int.reduceGE, Nat.reduceMul, Nat.reduceMod, Nat.reduceDiv]
    · rw [if_neg h1]
      refine Gives.no (t := 2) ?_
      simp only [rinner_k3, rinner_b, rinner_rs, Try.f90, hk, hs, rnumber_ok, ints_len, show (arity 14 != ((2 : Nat) : Int)) = false from rfl, hn0, mk_20, mk_21, beq_no h1, F.EVT, Am.splice, Am.enterN, Am.freshMem, Am.cA, Am.cB, Am.cK, Am.cL, Am.cS, Am.cT, Am.cE, Am.aresults, Am.aresult, Am.codeKey, Am.frzTop, Am.spliceP, Nat.reduceAdd, Nat.reduceLeDiff, Nat.reduceBEq, Nat.reduceEqDiff, reduceIte, reduceCtorEq, Nat.reduceSub, Int.reduceBEq, Int.reduceSub, Int.reduceAdd, Int.reduceToNat, Int.reduceLT, Int.reduceLE, Int.reduceEq, Int.reduceNeg, Int.reduceBNe, Int.reduceGT, Int.reduceGE, Nat.reduceMul, Nat.reduceMod, Nat.reduceDiv]
  · rw [if_neg hn0]
    refine Gives.no (t := 0) ?_
    simp only [rinner_k3, rinner_b, rinner_rs, Try.f90, hk, hs, rnumber_ok, ints_len, show (arity 14 != ((2 : Nat) : Int)) = false from rfl, bne_no hn0, F.EVT, Am.splice, Am.enterN, Am.freshMem, Am.cA, Am.cB, Am.cK, Am.cL, Am.cS, Am.cT, Am.cE, Am.aresults, Am.aresult, Am.codeKey, Am.frzTop, Am.spliceP, Nat.reduceAdd, Nat.reduceLeDiff, Nat.reduceBEq, Nat.reduceEqDiff, reduceIte, reduceCtorEq, Nat.reduceSub, Int.reduceBEq, Int.reduceSub, Int.reduceAdd, Int.reduceToNat, Int.reduceLT, Int.reduceLE, Int.reduceEq, Int.reduceNeg, Int.reduceBNe, Int.reduceGT, Int.reduceGE, Nat.reduceMul, Nat.reduceMod, Nat.reduceDiv]
theorem rin_15 {fs : List Fn} {cols params : List Int} {e : E} {ts : List Int} (hs : (e.s.toList == (ByteArray.mk #[]).toList) = true) (hk : e.op = 15) (hts : ts.length = e.args.length) (ha : arity 15 = ts.length) : RinGoal fs cols params e ts (tyArgs cols params 15 e.n e.s ts) := by
  unfold RinGoal
  rw [rinner_e3]; simp only [rinner_l3, rinner_b, rinner_rs, Try.f90, Int.lt_irrefl, hts, F.EVT, Am.splice, Am.enterN, Am.freshMem, Am.cA, Am.cB, Am.cK, Am.cL, Am.cS, Am.cT, Am.cE, Am.aresults, Am.aresult, Am.codeKey, Am.frzTop, Am.spliceP, Nat.reduceAdd, Nat.reduceLeDiff, Nat.reduceBEq, Nat.reduceEqDiff, reduceIte, reduceCtorEq, Nat.reduceSub, Int.reduceBEq, Int.reduceSub, Int.reduceAdd, Int.reduceToNat, Int.reduceLT, Int.reduceLE, Int.reduceEq, Int.reduceNeg, Int.reduceBNe, Int.reduceGT, Int.reduceGE, Nat.reduceMul, Nat.reduceMod, Nat.reduceDiv]
  clear hts
  obtain ⟨a, b, rfl⟩ := len2 (l := ts) (by have h0 : arity 15 = 2 := rfl; omega)
  show Gives _ (if e.n = 0 then (if a = b then some 2 else none) else none)
  by_cases hn0 : e.n = 0
  · rw [if_pos hn0]
    by_cases h1 : a = b
    · rw [if_pos h1]
      subst h1
      refine Gives.yes (t := 2) ?_
      simp only [rinner_k3, rinner_b, rinner_rs, Try.f90, hk, hs, rnumber_ok, ints_len, show (arity 15 != ((2 : Nat) : Int)) = false from rfl, hn0, mk_20, mk_21, beq_self_eq_true, F.EVT, Am.splice, Am.enterN, Am.freshMem, Am.cA, Am.cB, Am.cK, Am.cL, Am.cS, Am.cT, Am.cE, Am.aresults, Am.aresult, Am.codeKey, Am.frzTop, Am.spliceP, Nat.reduceAdd, Nat.reduceLeDiff, Nat.reduceBEq, Nat.reduceEqDiff, reduceIte, reduceCtorEq, Nat.reduceSub, Int.reduceBEq, Int.reduceSub, Int.reduceAdd, Int.reduceToNat, Int.reduceLT, Int.reduceLE, Int.reduceEq, Int.reduceNeg, Int.reduceBNe, Int.reduceGT, Int.reduceGE, Nat.reduceMul, Nat.reduceMod, Nat.reduceDiv]
    · rw [if_neg h1]
      refine Gives.no (t := 2) ?_
      simp only [rinner_k3, rinner_b, rinner_rs, Try.f90, hk, hs, rnumber_ok, ints_len, show (arity 15 != ((2 : Nat) : Int)) = false from rfl, hn0, mk_20, mk_21, beq_no h1, F.EVT, Am.splice, Am.enterN, Am.freshMem, Am.cA, Am.cB, Am.cK, Am.cL, Am.cS, Am.cT, Am.cE, Am.aresults, Am.aresult, Am.codeKey, Am.frzTop, Am.spliceP, Nat.reduceAdd, Nat.reduceLeDiff, Nat.reduceBEq, Nat.reduceEqDiff, reduceIte, reduceCtorEq, Nat.reduceSub, Int.reduceBEq, Int.reduceSub, Int.reduceAdd, Int.reduceToNat, Int.reduceLT, Int.reduceLE, Int.reduceEq, Int.reduceNeg, Int.reduceBNe, Int.reduceGT, Int.reduceGE, Nat.reduceMul, Nat.reduceMod, Nat.reduceDiv]
  · rw [if_neg hn0]
    refine Gives.no (t := 0) ?_
    simp only [rinner_k3, rinner_b, rinner_rs, Try.f90, hk, hs, rnumber_ok, ints_len, show (arity 15 != ((2 : Nat) : Int)) = false from rfl, bne_no hn0, F.EVT, Am.splice, Am.enterN, Am.freshMem, Am.cA, Am.cB, Am.cK, Am.cL, Am.cS, Am.cT, Am.cE, Am.aresults, Am.aresult, Am.codeKey, Am.frzTop, Am.spliceP, Nat.reduceAdd, Nat.reduceLeDiff, Nat.reduceBEq, Nat.reduceEqDiff, reduceIte, reduceCtorEq, Nat.reduceSub, Int.reduceBEq, Int.reduceSub, Int.reduceAdd, Int.reduceToNat, Int.reduceLT, Int.reduceLE, Int.reduceEq, Int.reduceNeg, Int.reduceBNe, Int.reduceGT, Int.reduceGE, Nat.reduceMul, Nat.reduceMod, Nat.reduceDiv]
theorem rin_16 {fs : List Fn} {cols params : List Int} {e : E} {ts : List Int} (hs : (e.s.toList == (ByteArray.mk #[]).toList) = true) (hk : e.op = 16) (hts : ts.length = e.args.length) (ha : arity 16 = ts.length) : RinGoal fs cols params e ts (tyArgs cols params 16 e.n e.s ts) := by
  unfold RinGoal
  rw [rinner_e3]; simp only [rinner_l3, rinner_b, rinner_rs, Try.f90, Int.lt_irrefl, hts, F.EVT, Am.splice, Am.enterN, Am.freshMem, Am.cA, Am.cB, Am.cK, Am.cL, Am.cS, Am.cT, Am.cE, Am.aresults, Am.aresult, Am.codeKey, Am.frzTop, Am.spliceP, Nat.reduceAdd, Nat.reduceLeDiff, Nat.reduceBEq, Nat.reduceEqDiff, reduceIte, reduceCtorEq, Nat.reduceSub, Int.reduceBEq, Int.reduceSub, Int.reduceAdd, Int.reduceToNat, Int.reduceLT, Int.reduceLE, Int.reduceEq, Int.reduceNeg, Int.reduceBNe, Int.reduceGT, Int.reduceGE, Nat.reduceMul, Nat.reduceMod, Nat.reduceDiv]
  clear hts
  obtain ⟨a, b, rfl⟩ := len2 (l := ts) (by have h0 : arity 16 = 2 := rfl; omega)
  show Gives _ (if e.n = 0 then (if a = b then some 2 else none) else none)
  by_cases hn0 : e.n = 0
  · rw [if_pos hn0]
    by_cases h1 : a = b
    · rw [if_pos h1]
      subst h1
      refine Gives.yes (t := 2) ?_
      simp only [rinner_k3, rinner_b, rinner_rs, Try.f90, hk, hs, rnumber_ok, ints_len, show (arity 16 != ((2 : Nat) : Int)) = false from rfl, hn0, mk_20, mk_21, beq_self_eq_true, F.EVT, Am.splice, Am.enterN, Am.freshMem, Am.cA, Am.cB, Am.cK, Am.cL, Am.cS, Am.cT, Am.cE, Am.aresults, Am.aresult, Am.codeKey, Am.frzTop, Am.spliceP, Nat.reduceAdd, Nat.reduceLeDiff, Nat.reduceBEq, Nat.reduceEqDiff, reduceIte, reduceCtorEq, Nat.reduceSub, Int.reduceBEq, Int.reduceSub, Int.reduceAdd, Int.reduceToNat, Int.reduceLT, Int.reduceLE, Int.reduceEq, Int.reduceNeg, Int.reduceBNe, Int.reduceGT, Int.reduceGE, Nat.reduceMul, Nat.reduceMod, Nat.reduceDiv]
    · rw [if_neg h1]
      refine Gives.no (t := 2) ?_
      simp only [rinner_k3, rinner_b, rinner_rs, Try.f90, hk, hs, rnumber_ok, ints_len, show (arity 16 != ((2 : Nat) : Int)) = false from rfl, hn0, mk_20, mk_21, beq_no h1, F.EVT, Am.splice, Am.enterN, Am.freshMem, Am.cA, Am.cB, Am.cK, Am.cL, Am.cS, Am.cT, Am.cE, Am.aresults, Am.aresult, Am.codeKey, Am.frzTop, Am.spliceP, Nat.reduceAdd, Nat.reduceLeDiff, Nat.reduceBEq, Nat.reduceEqDiff, reduceIte, reduceCtorEq, Nat.reduceSub, Int.reduceBEq, Int.reduceSub, Int.reduceAdd, Int.reduceToNat, Int.reduceLT, Int.reduceLE, Int.reduceEq, Int.reduceNeg, Int.reduceBNe, Int.reduceGT, Int.reduceGE, Nat.reduceMul, Nat.reduceMod, Nat.reduceDiv]
  · rw [if_neg hn0]
    refine Gives.no (t := 0) ?_
    simp only [rinner_k3, rinner_b, rinner_rs, Try.f90, hk, hs, rnumber_ok, ints_len, show (arity 16 != ((2 : Nat) : Int)) = false from rfl, bne_no hn0, F.EVT, Am.splice, Am.enterN, Am.freshMem, Am.cA, Am.cB, Am.cK, Am.cL, Am.cS, Am.cT, Am.cE, Am.aresults, Am.aresult, Am.codeKey, Am.frzTop, Am.spliceP, Nat.reduceAdd, Nat.reduceLeDiff, Nat.reduceBEq, Nat.reduceEqDiff, reduceIte, reduceCtorEq, Nat.reduceSub, Int.reduceBEq, Int.reduceSub, Int.reduceAdd, Int.reduceToNat, Int.reduceLT, Int.reduceLE, Int.reduceEq, Int.reduceNeg, Int.reduceBNe, Int.reduceGT, Int.reduceGE, Nat.reduceMul, Nat.reduceMod, Nat.reduceDiv]
theorem rin_17 {fs : List Fn} {cols params : List Int} {e : E} {ts : List Int} (hs : (e.s.toList == (ByteArray.mk #[]).toList) = true) (hk : e.op = 17) (hts : ts.length = e.args.length) (ha : arity 17 = ts.length) : RinGoal fs cols params e ts (tyArgs cols params 17 e.n e.s ts) := by
  unfold RinGoal
  rw [rinner_e3]; simp only [rinner_l3, rinner_b, rinner_rs, Try.f90, Int.lt_irrefl, hts, F.EVT, Am.splice, Am.enterN, Am.freshMem, Am.cA, Am.cB, Am.cK, Am.cL, Am.cS, Am.cT, Am.cE, Am.aresults, Am.aresult, Am.codeKey, Am.frzTop, Am.spliceP, Nat.reduceAdd, Nat.reduceLeDiff, Nat.reduceBEq, Nat.reduceEqDiff, reduceIte, reduceCtorEq, Nat.reduceSub, Int.reduceBEq, Int.reduceSub, Int.reduceAdd, Int.reduceToNat, Int.reduceLT, Int.reduceLE, Int.reduceEq, Int.reduceNeg, Int.reduceBNe, Int.reduceGT, Int.reduceGE, Nat.reduceMul, Nat.reduceMod, Nat.reduceDiv]
  clear hts
  obtain ⟨a, b, rfl⟩ := len2 (l := ts) (by have h0 : arity 17 = 2 := rfl; omega)
  show Gives _ (if e.n = 0 then (if a = 2 ∧ b = 2 then some 2 else none) else none)
  by_cases hn0 : e.n = 0
  · rw [if_pos hn0]
    by_cases h1 : a = 2
    · by_cases h2 : b = 2
      · rw [if_pos ⟨h1, h2⟩]
        subst h1; subst h2
        refine Gives.yes (t := 2) ?_
        simp only [rinner_k3, rinner_b, rinner_rs, Try.f90, hk, hs, rnumber_ok, ints_len, show (arity 17 != ((2 : Nat) : Int)) = false from rfl, hn0, mk_20, mk_21, F.EVT, Am.splice, Am.enterN, Am.freshMem, Am.cA, Am.cB, Am.cK, Am.cL, Am.cS, Am.cT, Am.cE, Am.aresults, Am.aresult, Am.codeKey, Am.frzTop, Am.spliceP, Nat.reduceAdd, Nat.reduceLeDiff, Nat.reduceBEq, Nat.reduceEqDiff, reduceIte, reduceCtorEq, Nat.reduceSub, Int.reduceBEq, Int.reduceSub, Int.reduceAdd, Int.reduceToNat, Int.reduceLT, Int.reduceLE, Int.reduceEq, Int.reduceNeg, Int.reduceBNe, Int.reduceGT, Int.reduceGE, Nat.reduceMul, Nat.reduceMod, Nat.reduceDiv]
      · rw [if_neg (fun q => h2 q.2)]
        subst h1
        refine Gives.no (t := 2) ?_
        simp only [rinner_k3, rinner_b, rinner_rs, Try.f90, hk, hs, rnumber_ok, ints_len, show (arity 17 != ((2 : Nat) : Int)) = false from rfl, hn0, mk_20, mk_21, beq_no h2, F.EVT, Am.splice, Am.enterN, Am.freshMem, Am.cA, Am.cB, Am.cK, Am.cL, Am.cS, Am.cT, Am.cE, Am.aresults, Am.aresult, Am.codeKey, Am.frzTop, Am.spliceP, Nat.reduceAdd, Nat.reduceLeDiff, Nat.reduceBEq, Nat.reduceEqDiff, reduceIte, reduceCtorEq, Nat.reduceSub, Int.reduceBEq, Int.reduceSub, Int.reduceAdd, Int.reduceToNat, Int.reduceLT, Int.reduceLE, Int.reduceEq, Int.reduceNeg, Int.reduceBNe, Int.reduceGT, Int.reduceGE, Nat.reduceMul, Nat.reduceMod, Nat.reduceDiv]
    · rw [if_neg (fun q => h1 q.1)]
      refine Gives.no (t := 2) ?_
      simp only [rinner_k3, rinner_b, rinner_rs, Try.f90, hk, hs, rnumber_ok, ints_len, show (arity 17 != ((2 : Nat) : Int)) = false from rfl, hn0, mk_20, mk_21, beq_no h1, F.EVT, Am.splice, Am.enterN, Am.freshMem, Am.cA, Am.cB, Am.cK, Am.cL, Am.cS, Am.cT, Am.cE, Am.aresults, Am.aresult, Am.codeKey, Am.frzTop, Am.spliceP, Nat.reduceAdd, Nat.reduceLeDiff, Nat.reduceBEq, Nat.reduceEqDiff, reduceIte, reduceCtorEq, Nat.reduceSub, Int.reduceBEq, Int.reduceSub, Int.reduceAdd, Int.reduceToNat, Int.reduceLT, Int.reduceLE, Int.reduceEq, Int.reduceNeg, Int.reduceBNe, Int.reduceGT, Int.reduceGE, Nat.reduceMul, Nat.reduceMod, Nat.reduceDiv]
  · rw [if_neg hn0]
    refine Gives.no (t := 0) ?_
    simp only [rinner_k3, rinner_b, rinner_rs, Try.f90, hk, hs, rnumber_ok, ints_len, show (arity 17 != ((2 : Nat) : Int)) = false from rfl, bne_no hn0, F.EVT, Am.splice, Am.enterN, Am.freshMem, Am.cA, Am.cB, Am.cK, Am.cL, Am.cS, Am.cT, Am.cE, Am.aresults, Am.aresult, Am.codeKey, Am.frzTop, Am.spliceP, Nat.reduceAdd, Nat.reduceLeDiff, Nat.reduceBEq, Nat.reduceEqDiff, reduceIte, reduceCtorEq, Nat.reduceSub, Int.reduceBEq, Int.reduceSub, Int.reduceAdd, Int.reduceToNat, Int.reduceLT, Int.reduceLE, Int.reduceEq, Int.reduceNeg, Int.reduceBNe, Int.reduceGT, Int.reduceGE, Nat.reduceMul, Nat.reduceMod, Nat.reduceDiv]
theorem rin_18 {fs : List Fn} {cols params : List Int} {e : E} {ts : List Int} (hs : (e.s.toList == (ByteArray.mk #[]).toList) = true) (hk : e.op = 18) (hts : ts.length = e.args.length) (ha : arity 18 = ts.length) : RinGoal fs cols params e ts (tyArgs cols params 18 e.n e.s ts) := by
  unfold RinGoal
  rw [rinner_e3]; simp only [rinner_l3, rinner_b, rinner_rs, Try.f90, Int.lt_irrefl, hts, F.EVT, Am.splice, Am.enterN, Am.freshMem, Am.cA, Am.cB, Am.cK, Am.cL, Am.cS, Am.cT, Am.cE, Am.aresults, Am.aresult, Am.codeKey, Am.frzTop, Am.spliceP, Nat.reduceAdd, Nat.reduceLeDiff, Nat.reduceBEq, Nat.reduceEqDiff, reduceIte, reduceCtorEq, Nat.reduceSub, Int.reduceBEq, Int.reduceSub, Int.reduceAdd, Int.reduceToNat, Int.reduceLT, Int.reduceLE, Int.reduceEq, Int.reduceNeg, Int.reduceBNe, Int.reduceGT, Int.reduceGE, Nat.reduceMul, Nat.reduceMod, Nat.reduceDiv]
  clear hts
  obtain ⟨a, b, rfl⟩ := len2 (l := ts) (by have h0 : arity 18 = 2 := rfl; omega)
  show Gives _ (if e.n = 0 then (if a = 2 ∧ b = 2 then some 2 else none) else none)
  by_cases hn0 : e.n = 0
  · rw [if_pos hn0]
    by_cases h1 : a = 2
    · by_cases h2 : b = 2
      · rw [if_pos ⟨h1, h2⟩]
        subst h1; subst h2
        refine Gives.yes (t := 2) ?_
        simp only [rinner_k3, rinner_b, rinner_rs, Try.f90, hk, hs, rnumber_ok, ints_len, show (arity 18 != ((2 : Nat) : Int)) = false from rfl, hn0, mk_20, mk_21, F.EVT, Am.splice, Am.enterN, Am.freshMem, Am.cA, Am.cB, Am.cK, Am.cL, Am.cS, Am.cT, Am.cE, Am.aresults, Am.aresult, Am.codeKey, Am.frzTop, Am.spliceP, Nat.reduceAdd, Nat.reduceLeDiff, Nat.reduceBEq, Nat.reduceEqDiff, reduceIte, reduceCtorEq, Nat.reduceSub, Int.reduceBEq, Int.reduceSub, Int.reduceAdd, Int.reduceToNat, Int.reduceLT, Int.reduceLE, Int.reduceEq, Int.reduceNeg, Int.reduceBNe, Int.reduceGT, Int.reduceGE, Nat.reduceMul, Nat.reduceMod, Nat.reduceDiv]
      · rw [if_neg (fun q => h2 q.2)]
        subst h1
        refine Gives.no (t := 2) ?_
        simp only [rinner_k3, rinner_b, rinner_rs, Try.f90, hk, hs, rnumber_ok, ints_len, show (arity 18 != ((2 : Nat) : Int)) = false from rfl, hn0, mk_20, mk_21, beq_no h2, F.EVT, Am.splice, Am.enterN, Am.freshMem, Am.cA, Am.cB, Am.cK, Am.cL, Am.cS, Am.cT, Am.cE, Am.aresults, Am.aresult, Am.codeKey, Am.frzTop, Am.spliceP, Nat.reduceAdd, Nat.reduceLeDiff, Nat.reduceBEq, Nat.reduceEqDiff, reduceIte, reduceCtorEq, Nat.reduceSub, Int.reduceBEq, Int.reduceSub, Int.reduceAdd, Int.reduceToNat, Int.reduceLT, Int.reduceLE, Int.reduceEq, Int.reduceNeg, Int.reduceBNe, Int.reduceGT, Int.reduceGE, Nat.reduceMul, Nat.reduceMod, Nat.reduceDiv]
    · rw [if_neg (fun q => h1 q.1)]
      refine Gives.no (t := 2) ?_
      simp only [rinner_k3, rinner_b, rinner_rs, Try.f90, hk, hs, rnumber_ok, ints_len, show (arity 18 != ((2 : Nat) : Int)) = false from rfl, hn0, mk_20, mk_21, beq_no h1, F.EVT, Am.splice, Am.enterN, Am.freshMem, Am.cA, Am.cB, Am.cK, Am.cL, Am.cS, Am.cT, Am.cE, Am.aresults, Am.aresult, Am.codeKey, Am.frzTop, Am.spliceP, Nat.reduceAdd, Nat.reduceLeDiff, Nat.reduceBEq, Nat.reduceEqDiff, reduceIte, reduceCtorEq, Nat.reduceSub, Int.reduceBEq, Int.reduceSub, Int.reduceAdd, Int.reduceToNat, Int.reduceLT, Int.reduceLE, Int.reduceEq, Int.reduceNeg, Int.reduceBNe, Int.reduceGT, Int.reduceGE, Nat.reduceMul, Nat.reduceMod, Nat.reduceDiv]
  · rw [if_neg hn0]
    refine Gives.no (t := 0) ?_
    simp only [rinner_k3, rinner_b, rinner_rs, Try.f90, hk, hs, rnumber_ok, ints_len, show (arity 18 != ((2 : Nat) : Int)) = false from rfl, bne_no hn0, F.EVT, Am.splice, Am.enterN, Am.freshMem, Am.cA, Am.cB, Am.cK, Am.cL, Am.cS, Am.cT, Am.cE, Am.aresults, Am.aresult, Am.codeKey, Am.frzTop, Am.spliceP, Nat.reduceAdd, Nat.reduceLeDiff, Nat.reduceBEq, Nat.reduceEqDiff, reduceIte, reduceCtorEq, Nat.reduceSub, Int.reduceBEq, Int.reduceSub, Int.reduceAdd, Int.reduceToNat, Int.reduceLT, Int.reduceLE, Int.reduceEq, Int.reduceNeg, Int.reduceBNe, Int.reduceGT, Int.reduceGE, Nat.reduceMul, Nat.reduceMod, Nat.reduceDiv]
theorem rin_19 {fs : List Fn} {cols params : List Int} {e : E} {ts : List Int} (hs : (e.s.toList == (ByteArray.mk #[]).toList) = true) (hk : e.op = 19) (hts : ts.length = e.args.length) (ha : arity 19 = ts.length) : RinGoal fs cols params e ts (tyArgs cols params 19 e.n e.s ts) := by
  unfold RinGoal
  rw [rinner_e3]; simp only [rinner_l3, rinner_b, rinner_rs, Try.f90, Int.lt_irrefl, hts, F.EVT, Am.splice, Am.enterN, Am.freshMem, Am.cA, Am.cB, Am.cK, Am.cL, Am.cS, Am.cT, Am.cE, Am.aresults, Am.aresult, Am.codeKey, Am.frzTop, Am.spliceP, Nat.reduceAdd, Nat.reduceLeDiff, Nat.reduceBEq, Nat.reduceEqDiff, reduceIte, reduceCtorEq, Nat.reduceSub, Int.reduceBEq, Int.reduceSub, Int.reduceAdd, Int.reduceToNat, Int.reduceLT, Int.reduceLE, Int.reduceEq, Int.reduceNeg, Int.reduceBNe, Int.reduceGT, Int.reduceGE, Nat.reduceMul, Nat.reduceMod, Nat.reduceDiv]
  clear hts
  obtain ⟨a, b, rfl⟩ := len2 (l := ts) (by have h0 : arity 19 = 2 := rfl; omega)
  show Gives _ (if e.n = 0 then (if a = 1 ∧ b = 1 then some 1 else none) else none)
  by_cases hn0 : e.n = 0
  · rw [if_pos hn0]
    by_cases h1 : a = 1
    · by_cases h2 : b = 1
      · rw [if_pos ⟨h1, h2⟩]
        subst h1; subst h2
        refine Gives.yes (t := 1) ?_
        simp only [rinner_k3, rinner_b, rinner_rs, Try.f90, hk, hs, rnumber_ok, ints_len, show (arity 19 != ((2 : Nat) : Int)) = false from rfl, hn0, mk_20, mk_21, F.EVT, Am.splice, Am.enterN, Am.freshMem, Am.cA, Am.cB, Am.cK, Am.cL, Am.cS, Am.cT, Am.cE, Am.aresults, Am.aresult, Am.codeKey, Am.frzTop, Am.spliceP, Nat.reduceAdd, Nat.reduceLeDiff, Nat.reduceBEq, Nat.reduceEqDiff, reduceIte, reduceCtorEq, Nat.reduceSub, Int.reduceBEq, Int.reduceSub, Int.reduceAdd, Int.reduceToNat, Int.reduceLT, Int.reduceLE, Int.reduceEq, Int.reduceNeg, Int.reduceBNe, Int.reduceGT, Int.reduceGE, Nat.reduceMul, Nat.reduceMod, Nat.reduceDiv]
      · rw [if_neg (fun q => h2 q.2)]
        subst h1
        refine Gives.no (t := 1) ?_
        simp only [rinner_k3, rinner_b, rinner_rs, Try.f90, hk, hs, rnumber_ok, ints_len, show (arity 19 != ((2 : Nat) : Int)) = false from rfl, hn0, mk_20, mk_21, beq_no h2, F.EVT, Am.splice, Am.enterN, Am.freshMem, Am.cA, Am.cB, Am.cK, Am.cL, Am.cS, Am.cT, Am.cE, Am.aresults, Am.aresult, Am.codeKey, Am.frzTop, Am.spliceP, Nat.reduceAdd, Nat.reduceLeDiff, Nat.reduceBEq, Nat.reduceEqDiff, reduceIte, reduceCtorEq, Nat.reduceSub, Int.reduceBEq, Int.reduceSub, Int.reduceAdd, Int.reduceToNat, Int.reduceLT, Int.reduceLE, Int.reduceEq, Int.reduceNeg, Int.reduceBNe, Int.reduceGT, Int.reduceGE, Nat.reduceMul, Nat.reduceMod, Nat.reduceDiv]
    · rw [if_neg (fun q => h1 q.1)]
      refine Gives.no (t := 1) ?_
      simp only [rinner_k3, rinner_b, rinner_rs, Try.f90, hk, hs, rnumber_ok, ints_len, show (arity 19 != ((2 : Nat) : Int)) = false from rfl, hn0, mk_20, mk_21, beq_no h1, F.EVT, Am.splice, Am.enterN, Am.freshMem, Am.cA, Am.cB, Am.cK, Am.cL, Am.cS, Am.cT, Am.cE, Am.aresults, Am.aresult, Am.codeKey, Am.frzTop, Am.spliceP, Nat.reduceAdd, Nat.reduceLeDiff, Nat.reduceBEq, Nat.reduceEqDiff, reduceIte, reduceCtorEq, Nat.reduceSub, Int.reduceBEq, Int.reduceSub, Int.reduceAdd, Int.reduceToNat, Int.reduceLT, Int.reduceLE, Int.reduceEq, Int.reduceNeg, Int.reduceBNe, Int.reduceGT, Int.reduceGE, Nat.reduceMul, Nat.reduceMod, Nat.reduceDiv]
  · rw [if_neg hn0]
    refine Gives.no (t := 0) ?_
    simp only [rinner_k3, rinner_b, rinner_rs, Try.f90, hk, hs, rnumber_ok, ints_len, show (arity 19 != ((2 : Nat) : Int)) = false from rfl, bne_no hn0, F.EVT, Am.splice, Am.enterN, Am.freshMem, Am.cA, Am.cB, Am.cK, Am.cL, Am.cS, Am.cT, Am.cE, Am.aresults, Am.aresult, Am.codeKey, Am.frzTop, Am.spliceP, Nat.reduceAdd, Nat.reduceLeDiff, Nat.reduceBEq, Nat.reduceEqDiff, reduceIte, reduceCtorEq, Nat.reduceSub, Int.reduceBEq, Int.reduceSub, Int.reduceAdd, Int.reduceToNat, Int.reduceLT, Int.reduceLE, Int.reduceEq, Int.reduceNeg, Int.reduceBNe, Int.reduceGT, Int.reduceGE, Nat.reduceMul, Nat.reduceMod, Nat.reduceDiv]
theorem rin_20 {fs : List Fn} {cols params : List Int} {e : E} {ts : List Int} (hs : (e.s.toList == (ByteArray.mk #[]).toList) = true) (hk : e.op = 20) (hts : ts.length = e.args.length) (ha : arity 20 = ts.length) : RinGoal fs cols params e ts (tyArgs cols params 20 e.n e.s ts) := by
  unfold RinGoal
  rw [rinner_e3]; simp only [rinner_l3, rinner_b, rinner_rs, Try.f90, Int.lt_irrefl, hts, F.EVT, Am.splice, Am.enterN, Am.freshMem, Am.cA, Am.cB, Am.cK, Am.cL, Am.cS, Am.cT, Am.cE, Am.aresults, Am.aresult, Am.codeKey, Am.frzTop, Am.spliceP, Nat.reduceAdd, Nat.reduceLeDiff, Nat.reduceBEq, Nat.reduceEqDiff, reduceIte, reduceCtorEq, Nat.reduceSub, Int.reduceBEq, Int.reduceSub, Int.reduceAdd, Int.reduceToNat, Int.reduceLT, Int.reduceLE, Int.reduceEq, Int.reduceNeg, Int.reduceBNe, Int.reduceGT, Int.reduceGE, Nat.reduceMul, Nat.reduceMod, Nat.reduceDiv]
  clear hts
  obtain ⟨a, rfl⟩ := len1 (l := ts) (by have h0 : arity 20 = 1 := rfl; omega)
  show Gives _ (if e.n = 0 then (if a = 1 then some 0 else none) else none)
  by_cases hn0 : e.n = 0
  · rw [if_pos hn0]
    by_cases h1 : a = 1
    · rw [if_pos h1]
      subst h1
      refine Gives.yes (t := 0) ?_
      simp only [rinner_k3, rinner_b, rinner_rs, Try.f90, hk, hs, rnumber_ok, ints_len, show (arity 20 != ((1 : Nat) : Int)) = false from rfl, hn0, mk_1, F.EVT, Am.splice, Am.enterN, Am.freshMem, Am.cA, Am.cB, Am.cK, Am.cL, Am.cS, Am.cT, Am.cE, Am.aresults, Am.aresult, Am.codeKey, Am.frzTop, Am.spliceP, Nat.reduceAdd, Nat.reduceLeDiff, Nat.reduceBEq, Nat.reduceEqDiff, reduceIte, reduceCtorEq, Nat.reduceSub, Int.reduceBEq, Int.reduceSub, Int.reduceAdd, Int.reduceToNat, Int.reduceLT, Int.reduceLE, Int.reduceEq, Int.reduceNeg, Int.reduceBNe, Int.reduceGT, Int.reduceGE, Nat.reduceMul, Nat.reduceMod, Nat.reduceDiv]
    · rw [if_neg h1]
      refine Gives.no (t := 0) ?_
      simp only [rinner_k3, rinner_b, rinner_rs, Try.f90, hk, hs, rnumber_ok, ints_len, show (arity 20 != ((1 : Nat) : Int)) = false from rfl, hn0, mk_1, beq_no h1, F.EVT, Am.splice, Am.enterN, Am.freshMem, Am.cA, Am.cB, Am.cK, Am.cL, Am.cS, Am.cT, Am.cE, Am.aresults, Am.aresult, Am.codeKey, Am.frzTop, Am.spliceP, Nat.reduceAdd, Nat.reduceLeDiff, Nat.reduceBEq, Nat.reduceEqDiff, reduceIte, reduceCtorEq, Nat.reduceSub, Int.reduceBEq, Int.reduceSub, Int.reduceAdd, Int.reduceToNat, Int.reduceLT, Int.reduceLE, Int.reduceEq, Int.reduceNeg, Int.reduceBNe, Int.reduceGT, Int.reduceGE, Nat.reduceMul, Nat.reduceMod, Nat.reduceDiv]
  · rw [if_neg hn0]
    refine Gives.no (t := 0) ?_
    simp only [rinner_k3, rinner_b, rinner_rs, Try.f90, hk, hs, rnumber_ok, ints_len, show (arity 20 != ((1 : Nat) : Int)) = false from rfl, bne_no hn0, F.EVT, Am.splice, Am.enterN, Am.freshMem, Am.cA, Am.cB, Am.cK, Am.cL, Am.cS, Am.cT, Am.cE, Am.aresults, Am.aresult, Am.codeKey, Am.frzTop, Am.spliceP, Nat.reduceAdd, Nat.reduceLeDiff, Nat.reduceBEq, Nat.reduceEqDiff, reduceIte, reduceCtorEq, Nat.reduceSub, Int.reduceBEq, Int.reduceSub, Int.reduceAdd, Int.reduceToNat, Int.reduceLT, Int.reduceLE, Int.reduceEq, Int.reduceNeg, Int.reduceBNe, Int.reduceGT, Int.reduceGE, Nat.reduceMul, Nat.reduceMod, Nat.reduceDiv]
theorem rin_21 {fs : List Fn} {cols params : List Int} {e : E} {ts : List Int} (hs : (e.s.toList == (ByteArray.mk #[]).toList) = true) (hk : e.op = 21) (hts : ts.length = e.args.length) (ha : arity 21 = ts.length) : RinGoal fs cols params e ts (tyArgs cols params 21 e.n e.s ts) := by
  unfold RinGoal
  rw [rinner_e3]; simp only [rinner_l3, rinner_b, rinner_rs, Try.f90, Int.lt_irrefl, hts, F.EVT, Am.splice, Am.enterN, Am.freshMem, Am.cA, Am.cB, Am.cK, Am.cL, Am.cS, Am.cT, Am.cE, Am.aresults, Am.aresult, Am.codeKey, Am.frzTop, Am.spliceP, Nat.reduceAdd, Nat.reduceLeDiff, Nat.reduceBEq, Nat.reduceEqDiff, reduceIte, reduceCtorEq, Nat.reduceSub, Int.reduceBEq, Int.reduceSub, Int.reduceAdd, Int.reduceToNat, Int.reduceLT, Int.reduceLE, Int.reduceEq, Int.reduceNeg, Int.reduceBNe, Int.reduceGT, Int.reduceGE, Nat.reduceMul, Nat.reduceMod, Nat.reduceDiv]
  clear hts
  obtain ⟨a, b, c, rfl⟩ := len3 (l := ts) (by have h0 : arity 21 = 3 := rfl; omega)
  show Gives _ (if e.n = 0 ∧ (21 : Int) = 21 ∧ a = 2 ∧ b = c then some b else none)
  by_cases hn0 : e.n = 0
  · by_cases h1 : a = 2
    · by_cases h2 : b = c
      · rw [if_pos ⟨hn0, rfl, h1, h2⟩]
        subst h1; subst h2
        refine Gives.yes (t := b) ?_
        simp only [rinner_k3, rinner_b, rinner_rs, Try.f90, hk, hs, rnumber_ok, ints_len, show (arity 21 != ((3 : Nat) : Int)) = false from rfl, hn0, mk_30, mk_31, mk_32, beq_self_eq_true, F.EVT, Am.splice, Am.enterN, Am.freshMem, Am.cA, Am.cB, Am.cK, Am.cL, Am.cS, Am.cT, Am.cE, Am.aresults, Am.aresult, Am.codeKey, Am.frzTop, Am.spliceP, Nat.reduceAdd, Nat.reduceLeDiff, Nat.reduceBEq, Nat.reduceEqDiff, reduceIte, reduceCtorEq, Nat.reduceSub, Int.reduceBEq, Int.reduceSub, Int.reduceAdd, Int.reduceToNat, Int.reduceLT, Int.reduceLE, Int.reduceEq, Int.reduceNeg, Int.reduceBNe, Int.reduceGT, Int.reduceGE, Nat.reduceMul, Nat.reduceMod, Nat.reduceDiv]
      · rw [if_neg (fun q => h2 q.2.2.2)]
        subst h1
        refine Gives.no (t := b) ?_
        simp only [rinner_k3, rinner_b, rinner_rs, Try.f90, hk, hs, rnumber_ok, ints_len, show (arity 21 != ((3 : Nat) : Int)) = false from rfl, hn0, mk_30, mk_31, mk_32, beq_no h2, F.EVT, Am.splice, Am.enterN, Am.freshMem, Am.cA, Am.cB, Am.cK, Am.cL, Am.cS, Am.cT, Am.cE, Am.aresults, Am.aresult, Am.codeKey, Am.frzTop, Am.spliceP, Nat.reduceAdd, Nat.reduceLeDiff, Nat.reduceBEq, Nat.reduceEqDiff, reduceIte, reduceCtorEq, Nat.reduceSub, Int.reduceBEq, Int.reduceSub, Int.reduceAdd, Int.reduceToNat, Int.reduceLT, Int.reduceLE, Int.reduceEq, Int.reduceNeg, Int.reduceBNe, Int.reduceGT, Int.reduceGE, Nat.reduceMul, Nat.reduceMod, Nat.reduceDiv]
    · rw [if_neg (fun q => h1 q.2.2.1)]
      refine Gives.no (t := b) ?_
      simp only [rinner_k3, rinner_b, rinner_rs, Try.f90, hk, hs, rnumber_ok, ints_len, show (arity 21 != ((3 : Nat) : Int)) = false from rfl, hn0, mk_30, mk_31, mk_32, beq_no h1, F.EVT, Am.splice, Am.enterN, Am.freshMem, Am.cA, Am.cB, Am.cK, Am.cL, Am.cS, Am.cT, Am.cE, Am.aresults, Am.aresult, Am.codeKey, Am.frzTop, Am.spliceP, Nat.reduceAdd, Nat.reduceLeDiff, Nat.reduceBEq, Nat.reduceEqDiff, reduceIte, reduceCtorEq, Nat.reduceSub, Int.reduceBEq, Int.reduceSub, Int.reduceAdd, Int.reduceToNat, Int.reduceLT, Int.reduceLE, Int.reduceEq, Int.reduceNeg, Int.reduceBNe, Int.reduceGT, Int.reduceGE, Nat.reduceMul, Nat.reduceMod, Nat.reduceDiv]
  · rw [if_neg (fun q => hn0 q.1)]
    refine Gives.no (t := 0) ?_
    simp only [rinner_k3, rinner_b, rinner_rs, Try.f90, hk, hs, rnumber_ok, ints_len, show (arity 21 != ((3 : Nat) : Int)) = false from rfl, bne_no hn0, F.EVT, Am.splice, Am.enterN, Am.freshMem, Am.cA, Am.cB, Am.cK, Am.cL, Am.cS, Am.cT, Am.cE, Am.aresults, Am.aresult, Am.codeKey, Am.frzTop, Am.spliceP, Nat.reduceAdd, Nat.reduceLeDiff, Nat.reduceBEq, Nat.reduceEqDiff, reduceIte, reduceCtorEq, Nat.reduceSub, Int.reduceBEq, Int.reduceSub, Int.reduceAdd, Int.reduceToNat, Int.reduceLT, Int.reduceLE, Int.reduceEq, Int.reduceNeg, Int.reduceBNe, Int.reduceGT, Int.reduceGE, Nat.reduceMul, Nat.reduceMod, Nat.reduceDiv]
end Go.Proofs.Ytjbmdfdgeioecaa.X
