/- Values of operations, by the answer of the document. -/
import Derived.Test.YtjbmdfdgeioecaaN27
import Derived.Laws.Strings
namespace Go.Proofs.Ytjbmdfdgeioecaa.X
open Go.Proofs.Ytjbmdfdgeioecaa.Am Go.Proofs.Ytjbmdfdgeioecaa.F
set_option linter.unusedVariables false
set_option linter.unusedSimpArgs false
set_option maxRecDepth 100000
set_option maxHeartbeats 1000000
theorem less_iff : ∀ a b : List UInt8, Op.bytesLess a b = decide (Lib.compareBytes a b < 0)
  | [], [] => rfl
  | [], _ :: _ => rfl
  | _ :: _, [] => rfl
  | x :: a, y :: b => by
    show (decide (x < y) || (x == y && Op.bytesLess a b)) = decide ((if x < y then -1 else if y < x then 1 else Lib.compareBytes a b) < 0)
    by_cases h : x < y
    · rw [if_pos h]; simp [h]
    · rw [if_neg h]
      by_cases h' : y < x
      · rw [if_pos h']
        have : (x == y) = false := by rw [beq_eq_false_iff_ne]; intro e; subst e; exact absurd h' h
        simp [h, this]
      · rw [if_neg h']
        have : x = y := UInt8.le_antisymm (UInt8.not_lt.1 h') (UInt8.not_lt.1 h)
        subst this
        rw [less_iff a b]
        simp [h]
theorem compare_swap : ∀ a b : List UInt8, Lib.compareBytes a b = - Lib.compareBytes b a
  | [], [] => rfl
  | [], _ :: _ => rfl
  | _ :: _, [] => rfl
  | x :: a, y :: b => by
    show (if x < y then -1 else if y < x then 1 else Lib.compareBytes a b) = - (if y < x then -1 else if x < y then 1 else Lib.compareBytes b a)
    by_cases h : x < y
    · have h' : ¬ y < x := fun q => absurd (UInt8.lt_trans h q) (UInt8.lt_irrefl x)
      rw [if_pos h, if_neg h', if_pos h]
    · by_cases h' : y < x
      · rw [if_neg h, if_pos h', if_pos h']; rfl
      · rw [if_neg h, if_neg h', if_neg h', if_neg h, compare_swap a b]
def lessV (a b : V) : Bool := if a.kind == 1 then Op.bytesLess a.s.toList b.s.toList else decide (a.n < b.n)
theorem firstNZ_0 {x : Int} {l : List Int} (h : x = 0) : firstNZ (x :: l) = firstNZ l := by subst h; rfl
theorem cmpI_self (a : Int) : cmpI a a = 0 := by unfold cmpI; rw [if_neg (by omega), if_neg (by omega)]
theorem firstNZ_1 (x : Int) : firstNZ [x] = x := by unfold firstNZ; by_cases h : x = 0 <;> simp [h, firstNZ]
theorem compare_self : ∀ a : List UInt8, Lib.compareBytes a a = 0
  | [] => rfl
  | x :: a => by
    show (if x < x then -1 else if x < x then 1 else Lib.compareBytes a a) = 0
    rw [if_neg (UInt8.lt_irrefl x), if_neg (UInt8.lt_irrefl x), compare_self a]
theorem noS_data {s : ByteArray} (h : noS s = true) : s.data.toList = [] := by
  unfold noS at h
  rw [ByteArray.toList_eq, ByteArray.toList_eq] at h
  simpa using h
theorem okV_0 {v : V} (h : OkV 0 v) : v.s.data.toList = [] := by
  have h1 := h.right; have h2 := h.kind
  unfold rightV at h1
  rw [h2] at h1
  exact noS_data h1
theorem okV_1 {v : V} (h : OkV 1 v) : v.n = 0 := by
  have h1 := h.right; have h2 := h.kind
  unfold rightV at h1
  rw [h2] at h1
  have h3 : (v.n == 0 && decide ((v.s.size : Int) ≤ 200)) = true := h1
  simp only [Bool.and_eq_true, beq_iff_eq] at h3
  exact h3.1
theorem okV_2 {v : V} (h : OkV 2 v) : v.s.data.toList = [] ∧ (v.n = 0 ∨ v.n = 1) := by
  have h1 := h.right; have h2 := h.kind
  unfold rightV at h1
  rw [h2] at h1
  have h3 : (2 == 2 && ((v.n == 0 || v.n == 1) && noS v.s)) = true := h1
  simp only [Bool.and_eq_true, Bool.or_eq_true, beq_iff_eq] at h3
  exact ⟨noS_data h3.2.2, h3.2.1⟩
theorem okV_kind {t : Int} {v : V} (h : OkV t v) : t = 0 ∨ t = 1 ∨ t = 2 := by
  have h1 := h.right; have h2 := h.kind
  unfold rightV at h1
  rw [h2] at h1
  by_cases h0 : t = 0
  · exact .inl h0
  · rw [if_neg (by simpa using h0)] at h1
    by_cases h0 : t = 1
    · exact .inr (.inl h0)
    · rw [if_neg (by simpa using h0)] at h1
      simp only [Bool.and_eq_true, beq_iff_eq] at h1
      exact .inr (.inr h1.1)
theorem vcmp_ok {t : Int} {a b : V} (ha : OkV t a) (hb : OkV t b) : vcmp a b = if t = 1 then Lib.compareBytes a.s.data.toList b.s.data.toList else cmpI a.n b.n := by
  unfold vcmp
  rw [firstNZ_0 (by rw [ha.kind, hb.kind]; exact cmpI_self t)]
  rcases okV_kind ha with rfl | rfl | rfl
  · rw [if_neg (by omega), okV_0 ha, okV_0 hb]
    by_cases h : cmpI a.n b.n = 0
    · rw [firstNZ_0 h, h]; rfl
    · simp [firstNZ, h]
  · rw [if_pos rfl, okV_1 ha, okV_1 hb, firstNZ_0 (cmpI_self 0), firstNZ_1]
  · rw [if_neg (by omega), (okV_2 ha).1, (okV_2 hb).1]
    by_cases h : cmpI a.n b.n = 0
    · rw [firstNZ_0 h, h]; rfl
    · simp [firstNZ, h]
theorem less_vcmp {t : Int} {a b : V} (ha : OkV t a) (hb : OkV t b) : lessV a b = decide (vcmp a b < 0) := by
  rw [vcmp_ok ha hb]
  unfold lessV
  rw [ha.kind]
  by_cases h : t = 1
  · rw [if_pos h, if_pos (by simpa using h), ByteArray.toList_eq, ByteArray.toList_eq, less_iff]
  · rw [if_neg h, if_neg (by simpa using h)]
    unfold cmpI
    by_cases h1 : a.n < b.n
    · simp [h1]
    · by_cases h2 : a.n > b.n <;> simp [h1, h2]
theorem vcmp_swap {t : Int} {a b : V} (ha : OkV t a) (hb : OkV t b) : vcmp a b = - vcmp b a := by
  rw [vcmp_ok ha hb, vcmp_ok hb ha]
  by_cases h : t = 1
  · rw [if_pos h, if_pos h, compare_swap]
  · rw [if_neg h, if_neg h]
    unfold cmpI
    split <;> split <;> omega
theorem nless_vcmp {t : Int} {a b : V} (ha : OkV t a) (hb : OkV t b) : (!lessV b a) = decide (vcmp a b ≤ 0) := by
  rw [less_vcmp hb ha, vcmp_swap hb ha]
  by_cases h : vcmp a b ≤ 0
  · simp [h]
  · simp [h]; omega
theorem rless_ok (a b : V) : RR 82 [.agg [.pv (.int .i64 a.kind), .pv (.int .i64 a.n), .pv (.str a.s)], .agg [.pv (.int .i64 b.kind), .pv (.int .i64 b.n), .pv (.str b.s)]] [] = some (B (lessV a b), []) := by
  unfold lessV
  apply rless_r
  cases h : a.kind == 1
  · simp only [rless_b, rless_h, rless_rs, Try.f82, h, F.EVT, Am.splice, Am.enterN, Am.freshMem, Am.cA, Am.cB, Am.cK, Am.cL, Am.cS, Am.cT, Am.cE, Am.aresults, Am.aresult, Am.codeKey, Nat.reduceAdd, Nat.reduceLeDiff, Nat.reduceBEq, Nat.reduceEqDiff, reduceIte, reduceCtorEq, Nat.reduceSub, Int.reduceBEq, Int.reduceSub, Int.reduceAdd, Int.reduceToNat, Int.reduceLT, Int.reduceLE, Int.reduceEq, Int.reduceNeg, Int.reduceBNe, Int.reduceGT, Int.reduceGE, Nat.reduceMul, Nat.reduceMod, Nat.reduceDiv]
    try rfl
  · simp only [rless_b, rless_h, rless_rs, Try.f82, h, F.EVT, Am.splice, Am.enterN, Am.freshMem, Am.cA, Am.cB, Am.cK, Am.cL, Am.cS, Am.cT, Am.cE, Am.aresults, Am.aresult, Am.codeKey, Nat.reduceAdd, Nat.reduceLeDiff, Nat.reduceBEq, Nat.reduceEqDiff, reduceIte, reduceCtorEq, Nat.reduceSub, Int.reduceBEq, Int.reduceSub, Int.reduceAdd, Int.reduceToNat, Int.reduceLT, Int.reduceLE, Int.reduceEq, Int.reduceNeg, Int.reduceBNe, Int.reduceGT, Int.reduceGE, Nat.reduceMul, Nat.reduceMod, Nat.reduceDiv]
    try rfl
theorem rtruth_ok (b : Bool) : RR 81 [B b] [] = some ((tv b).av, []) := by
  apply rtruth_r
  cases b
  · simp only [rtruth_b, rtruth_h, rtruth_rs, Try.f81, F.EVT, Am.splice, Am.enterN, Am.freshMem, Am.cA, Am.cB, Am.cK, Am.cL, Am.cS, Am.cT, Am.cE, Am.aresults, Am.aresult, Am.codeKey, Nat.reduceAdd, Nat.reduceLeDiff, Nat.reduceBEq, Nat.reduceEqDiff, reduceIte, reduceCtorEq, Nat.reduceSub, Int.reduceBEq, Int.reduceSub, Int.reduceAdd, Int.reduceToNat, Int.reduceLT, Int.reduceLE, Int.reduceEq, Int.reduceNeg, Int.reduceBNe, Int.reduceGT, Int.reduceGE, Nat.reduceMul, Nat.reduceMod, Nat.reduceDiv]
    rfl
  · simp only [rtruth_b, rtruth_h, rtruth_rs, Try.f81, F.EVT, Am.splice, Am.enterN, Am.freshMem, Am.cA, Am.cB, Am.cK, Am.cL, Am.cS, Am.cT, Am.cE, Am.aresults, Am.aresult, Am.codeKey, Nat.reduceAdd, Nat.reduceLeDiff, Nat.reduceBEq, Nat.reduceEqDiff, reduceIte, reduceCtorEq, Nat.reduceSub, Int.reduceBEq, Int.reduceSub, Int.reduceAdd, Int.reduceToNat, Int.reduceLT, Int.reduceLE, Int.reduceEq, Int.reduceNeg, Int.reduceBNe, Int.reduceGT, Int.reduceGE, Nat.reduceMul, Nat.reduceMod, Nat.reduceDiv]
    rfl
theorem mkW {l : List V} {a : V} {i : Int} (h0 : 0 ≤ i) (h : l[i.toNat]? = some a) : indexC 3 (.pv (.slc (vs l))) i = some (.eptr [.int .i64 a.kind, .int .i64 a.n, .str a.s]) := index_Vat h0 h
theorem mkW0 {a : V} {l : List V} : indexC 3 (.pv (.slc (vs (a :: l)))) 0 = some (.eptr [.int .i64 a.kind, .int .i64 a.n, .str a.s]) := mkW (by omega) rfl
theorem mkW1 {a b : V} {l : List V} : indexC 3 (.pv (.slc (vs (a :: b :: l)))) 1 = some (.eptr [.int .i64 b.kind, .int .i64 b.n, .str b.s]) := mkW (by omega) rfl
def RaGoal (e : E) (l : List V) (v : V) : Prop := RR 44 [e.av, .pv (.slc (vs l))] [] = some (v.av, [])
theorem ra_0 {e : E} {l : List V} (hk : e.op = 0) : RaGoal e l (nv e.n) := by
  apply rapply_r
  simp only [E.av, V.av, nv]
  simp only [rapply_b, rapply_h, rapply_rs, Try.f44, hk, F.EVT, Am.splice, Am.enterN, Am.freshMem, Am.cA, Am.cB, Am.cK, Am.cL, Am.cS, Am.cT, Am.cE, Am.aresults, Am.aresult, Am.codeKey, Nat.reduceAdd, Nat.reduceLeDiff, Nat.reduceBEq, Nat.reduceEqDiff, reduceIte, reduceCtorEq, Nat.reduceSub, Int.reduceBEq, Int.reduceSub, Int.reduceAdd, Int.reduceToNat, Int.reduceLT, Int.reduceLE, Int.reduceEq, Int.reduceNeg, Int.reduceBNe, Int.reduceGT, Int.reduceGE, Nat.reduceMul, Nat.reduceMod, Nat.reduceDiv]
  try rfl
theorem ra_1 {e : E} {l : List V} (hk : e.op = 1) : RaGoal e l ⟨1, 0, e.s⟩ := by
  apply rapply_r
  simp only [E.av, V.av]
  simp only [rapply_b, rapply_h, rapply_rs, Try.f44, hk, F.EVT, Am.splice, Am.enterN, Am.freshMem, Am.cA, Am.cB, Am.cK, Am.cL, Am.cS, Am.cT, Am.cE, Am.aresults, Am.aresult, Am.codeKey, Nat.reduceAdd, Nat.reduceLeDiff, Nat.reduceBEq, Nat.reduceEqDiff, reduceIte, reduceCtorEq, Nat.reduceSub, Int.reduceBEq, Int.reduceSub, Int.reduceAdd, Int.reduceToNat, Int.reduceLT, Int.reduceLE, Int.reduceEq, Int.reduceNeg, Int.reduceBNe, Int.reduceGT, Int.reduceGE, Nat.reduceMul, Nat.reduceMod, Nat.reduceDiv]
  try rfl
theorem ra_2 {e : E} {l : List V} (hk : e.op = 2) : RaGoal e l (tv (e.n == 1)) := by
  have h := rtruth_ok (e.n == 1)
  apply rapply_r
  generalize tv (e.n == 1) = v at h ⊢
  simp only [E.av, V.av] at h ⊢
  simp only [rapply_b, rapply_h, rapply_rs, Try.f44, hk, h, F.EVT, Am.splice, Am.enterN, Am.freshMem, Am.cA, Am.cB, Am.cK, Am.cL, Am.cS, Am.cT, Am.cE, Am.aresults, Am.aresult, Am.codeKey, Nat.reduceAdd, Nat.reduceLeDiff, Nat.reduceBEq, Nat.reduceEqDiff, reduceIte, reduceCtorEq, Nat.reduceSub, Int.reduceBEq, Int.reduceSub, Int.reduceAdd, Int.reduceToNat, Int.reduceLT, Int.reduceLE, Int.reduceEq, Int.reduceNeg, Int.reduceBNe, Int.reduceGT, Int.reduceGE, Nat.reduceMul, Nat.reduceMod, Nat.reduceDiv]
theorem ra_6 {e : E} {a : V} (hk : e.op = 6) : RaGoal e [a] (tv (a.n == 0)) := by
  have h := rtruth_ok (a.n == 0)
  apply rapply_r
  generalize tv (a.n == 0) = v at h ⊢
  simp only [E.av, V.av] at h ⊢
  simp only [rapply_b, rapply_h, rapply_rs, Try.f44, hk, h, mkW0, F.EVT, Am.splice, Am.enterN, Am.freshMem, Am.cA, Am.cB, Am.cK, Am.cL, Am.cS, Am.cT, Am.cE, Am.aresults, Am.aresult, Am.codeKey, Nat.reduceAdd, Nat.reduceLeDiff, Nat.reduceBEq, Nat.reduceEqDiff, reduceIte, reduceCtorEq, Nat.reduceSub, Int.reduceBEq, Int.reduceSub, Int.reduceAdd, Int.reduceToNat, Int.reduceLT, Int.reduceLE, Int.reduceEq, Int.reduceNeg, Int.reduceBNe, Int.reduceGT, Int.reduceGE, Nat.reduceMul, Nat.reduceMod, Nat.reduceDiv]
theorem ra_7 {e : E} {a : V} (hk : e.op = 7) : RaGoal e [a] (nv (IntKind.i64.wrap (0 - a.n))) := by
  apply rapply_r
  simp only [E.av, V.av, nv]
  simp only [rapply_b, rapply_h, rapply_rs, Try.f44, hk, mkW0, F.EVT, Am.splice, Am.enterN, Am.freshMem, Am.cA, Am.cB, Am.cK, Am.cL, Am.cS, Am.cT, Am.cE, Am.aresults, Am.aresult, Am.codeKey, Nat.reduceAdd, Nat.reduceLeDiff, Nat.reduceBEq, Nat.reduceEqDiff, reduceIte, reduceCtorEq, Nat.reduceSub, Int.reduceBEq, Int.reduceSub, Int.reduceAdd, Int.reduceToNat, Int.reduceLT, Int.reduceLE, Int.reduceEq, Int.reduceNeg, Int.reduceBNe, Int.reduceGT, Int.reduceGE, Nat.reduceMul, Nat.reduceMod, Nat.reduceDiv]
  try rfl
theorem ra_20 {e : E} {a : V} (hk : e.op = 20) : RaGoal e [a] (nv a.s.size) := by
  apply rapply_r
  simp only [E.av, V.av, nv]
  simp only [rapply_b, rapply_h, rapply_rs, Try.f44, hk, mkW0, F.EVT, Am.splice, Am.enterN, Am.freshMem, Am.cA, Am.cB, Am.cK, Am.cL, Am.cS, Am.cT, Am.cE, Am.aresults, Am.aresult, Am.codeKey, Nat.reduceAdd, Nat.reduceLeDiff, Nat.reduceBEq, Nat.reduceEqDiff, reduceIte, reduceCtorEq, Nat.reduceSub, Int.reduceBEq, Int.reduceSub, Int.reduceAdd, Int.reduceToNat, Int.reduceLT, Int.reduceLE, Int.reduceEq, Int.reduceNeg, Int.reduceBNe, Int.reduceGT, Int.reduceGE, Nat.reduceMul, Nat.reduceMod, Nat.reduceDiv]
  try rfl
end Go.Proofs.Ytjbmdfdgeioecaa.X
