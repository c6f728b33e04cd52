/- Types of expressions, as the document's answer gives them: the small functions. -/
import Derived.Test.YtjbmdfdgeioecaaN3
namespace Go.Proofs.Ytjbmdfdgeioecaa.X
open Go.Proofs.Ytjbmdfdgeioecaa.Am Go.Proofs.Ytjbmdfdgeioecaa.F
set_option linter.unusedVariables false
set_option linter.unusedSimpArgs false
set_option maxRecDepth 100000
def isTy (n : Int) : Bool := decide (0 ≤ n) && decide (n < 3)
def pickTy (l : List Int) (n : Int) : Option Int := if 0 ≤ n ∧ n < l.length then match l[n.toNat]? with | some t => if isTy t then some t else none | none => none else none
def leafTy (cols params : List Int) (op n : Int) (s : ByteArray) : Option Int :=
  if op = 0 then some 0 else if op = 1 then (if n = 0 ∧ (s.size : Int) ≤ 200 then some 1 else none) else if op = 2 then (if n = 0 ∨ n = 1 then some 2 else none)
  else if op = 3 then pickTy cols n else if op = 4 then pickTy params n else if op = 5 then (if n = 0 then some 0 else none) else none
def callTy (fs : List Fn) (n : Int) (l : List Int) : Option Int := if 0 ≤ n ∧ n < fs.length then match fs[n.toNat]? with | some f => if f.params = l then some f.result else none | none => none else none
def unTy (op a : Int) : Option Int := if op = 6 then (if a = 2 then some 2 else none) else if op = 7 then (if a = 0 then some 0 else none) else if op = 20 then (if a = 1 then some 0 else none) else none
def binTy (op a b : Int) : Option Int :=
  if 8 ≤ op ∧ op ≤ 12 then (if a = 0 ∧ b = 0 then some 0 else none) else if 13 ≤ op ∧ op ≤ 16 then (if a = b then some 2 else none)
  else if op = 17 ∨ op = 18 then (if a = 2 ∧ b = 2 then some 2 else none) else if op = 19 then (if a = 1 ∧ b = 1 then some 1 else none) else none
def tyArgs (cols params : List Int) (op n : Int) (s : ByteArray) (l : List Int) : Option Int :=
  match l with
    | [] => leafTy cols params op n s
    | [a] => if n = 0 then unTy op a else none
    | [a, b] => if n = 0 then binTy op a b else none
    | [a, b, c] => if n = 0 ∧ op = 21 ∧ a = 2 ∧ b = c then some b else none
    | _ => none
def tyOp (fs : List Fn) (cols params : List Int) (op n : Int) (s : ByteArray) (l : List Int) : Option Int :=
  if noS s = false ∧ op ≠ 1 then none else if op = 22 then callTy fs n l else tyArgs cols params op n s l
mutual
def ty (fs : List Fn) (cols params : List Int) : E → Option Int | .mk op n s args => match tyL fs cols params args with | some l => tyOp fs cols params op n s l | none => none
def tyL (fs : List Fn) (cols params : List Int) : List E → Option (List Int) | [] => some [] | a :: l => match ty fs cols params a with
  | some t => match tyL fs cols params l with | some ts => some (t :: ts) | none => none
  | none => none
end
theorem ty_eq (fs : List Fn) (cols params : List Int) (e : E) : ty fs cols params e = match tyL fs cols params e.args with | some l => tyOp fs cols params e.op e.n e.s l | none => none := by cases e; simp only [ty, E.args, E.op, E.n, E.s]
theorem rkind_ok (n : Int) : RR 62 [.pv (.int .i64 n)] [] = some (.pv (.bool (isTy n)), []) := by
  apply rkind_r
  unfold isTy
  by_cases h : n ≥ 0
  · have h' : 0 ≤ n := h
    simp only [rkind_b, rkind_h, rkind_rs, Try.f62, h, h', F.EVT, Am.splice, Am.enterN, Am.freshMem, Am.cA, Am.cB, Am.cK, Am.cL, Am.cS, Am.cT, Am.cE, Am.aresults, Am.aresult, Am.codeKey, Am.frzTop, Am.spliceP, Nat.reduceAdd, Nat.reduceLeDiff, Nat.reduceBEq, Nat.reduceEqDiff, reduceIte, reduceCtorEq, Nat.reduceSub, Int.reduceBEq, Int.reduceSub, Int.reduceAdd, Int.reduceToNat, Int.reduceLT, Int.reduceLE, Int.reduceEq, Int.reduceNeg, Int.reduceBNe, Int.reduceGT, Int.reduceGE, Nat.reduceMul, Nat.reduceMod, Nat.reduceDiv]
    try rfl
  · have h' : ¬ 0 ≤ n := h
    simp only [rkind_b, rkind_h, rkind_rs, Try.f62, h, h', F.EVT, Am.splice, Am.enterN, Am.freshMem, Am.cA, Am.cB, Am.cK, Am.cL, Am.cS, Am.cT, Am.cE, Am.aresults, Am.aresult, Am.codeKey, Am.frzTop, Am.spliceP, Nat.reduceAdd, Nat.reduceLeDiff, Nat.reduceBEq, Nat.reduceEqDiff, reduceIte, reduceCtorEq, Nat.reduceSub, Int.reduceBEq, Int.reduceSub, Int.reduceAdd, Int.reduceToNat, Int.reduceLT, Int.reduceLE, Int.reduceEq, Int.reduceNeg, Int.reduceBNe, Int.reduceGT, Int.reduceGE, Nat.reduceMul, Nat.reduceMod, Nat.reduceDiv]
    try rfl
theorem index_at {l : List Int} {n : Int} {a : Int} (h0 : 0 ≤ n) (h : l[n.toNat]? = some a) : indexC 1 (.pv (.slc (ints l))) n = some (.eptr [.int .i64 a]) := by
  simp [indexC, AV.slc?, h, h0, ints, PV.cells]
theorem index_fn {l : List Fn} {n : Int} {a : Fn} (h0 : 0 ≤ n) (h : l[n.toNat]? = some a) : indexC 7 (.pv (.slc (l.map Fn.pv))) n = some (.eptr [.str a.name, .slc (ints a.params), .int .i64 a.result, .int .i64 a.body.op, .int .i64 a.body.n, .str a.body.s, .slc (a.body.args.map E.pv)]) := by
  simp [indexC, AV.slc?, h, h0, a.pv_len, Fn.pv, PV.cells]
/-- What a function that gives a type, or not, gives. -/
def Gives (x : Option (AV × List Mem)) (o : Option Int) : Prop := ∃ t, x = some (.tup [I t, B o.isSome], []) ∧ ∀ u, o = some u → t = u
theorem Gives.no {x : Option (AV × List Mem)} {t : Int} (h : x = some (.tup [I t, B false], [])) : Gives x none := ⟨t, h, fun u hu => by cases hu⟩
theorem Gives.yes {x : Option (AV × List Mem)} {t : Int} (h : x = some (.tup [I t, B true], [])) : Gives x (some t) := ⟨t, h, fun u hu => by cases hu; rfl⟩
theorem Gives.bool {x : Option (AV × List Mem)} {t : Int} {b : Bool} (h : x = some (.tup [I t, B b], [])) : Gives x (if b then some t else none) := by
  cases b
  · exact .no h
  · exact .yes h
theorem rat_ok (l : List Int) (n : Int) : Gives (RR 101 [.pv (.slc (ints l)), I n] []) (pickTy l n) := by
  unfold pickTy
  by_cases h : n < 0
  · have h' : ¬ (0 ≤ n ∧ n < l.length) := by omega
    rw [if_neg h']
    refine Gives.no (t := 0) ?_
    apply rat_r
    simp only [rat_b, rat_h, rat_rs, Try.f101, h, F.EVT, Am.splice, Am.enterN, Am.freshMem, Am.cA, Am.cB, Am.cK, Am.cL, Am.cS, Am.cT, Am.cE, Am.aresults, Am.aresult, Am.codeKey, Am.frzTop, Am.spliceP, Nat.reduceAdd, Nat.reduceLeDiff, Nat.reduceBEq, Nat.reduceEqDiff, reduceIte, reduceCtorEq, Nat.reduceSub, Int.reduceBEq, Int.reduceSub, Int.reduceAdd, Int.reduceToNat, Int.reduceLT, Int.reduceLE, Int.reduceEq, Int.reduceNeg, Int.reduceBNe, Int.reduceGT, Int.reduceGE, Nat.reduceMul, Nat.reduceMod, Nat.reduceDiv]
  · by_cases h2 : n ≥ l.length
    · have h' : ¬ (0 ≤ n ∧ n < l.length) := by omega
      rw [if_neg h']
      refine Gives.no (t := 0) ?_
      apply rat_r
      simp only [rat_b, rat_h, rat_rs, Try.f101, h, h2, ints_len, F.EVT, Am.splice, Am.enterN, Am.freshMem, Am.cA, Am.cB, Am.cK, Am.cL, Am.cS, Am.cT, Am.cE, Am.aresults, Am.aresult, Am.codeKey, Am.frzTop, Am.spliceP, Nat.reduceAdd, Nat.reduceLeDiff, Nat.reduceBEq, Nat.reduceEqDiff, reduceIte, reduceCtorEq, Nat.reduceSub, Int.reduceBEq, Int.reduceSub, Int.reduceAdd, Int.reduceToNat, Int.reduceLT, Int.reduceLE, Int.reduceEq, Int.reduceNeg, Int.reduceBNe, Int.reduceGT, Int.reduceGE, Nat.reduceMul, Nat.reduceMod, Nat.reduceDiv]
    · have h0 : 0 ≤ n := by omega
      have hlt : n.toNat < l.length := by omega
      rw [if_pos ⟨h0, by omega⟩, List.getElem?_eq_getElem hlt]
      refine Gives.bool ?_
      apply rat_r
      simp only [rat_b, rat_h, rat_rs, Try.f101, h, h2, ints_len, index_at h0 (List.getElem?_eq_getElem hlt), rkind_ok, F.EVT, Am.splice, Am.enterN, Am.freshMem, Am.cA, Am.cB, Am.cK, Am.cL, Am.cS, Am.cT, Am.cE, Am.aresults, Am.aresult, Am.codeKey, Am.frzTop, Am.spliceP, Nat.reduceAdd, Nat.reduceLeDiff, Nat.reduceBEq, Nat.reduceEqDiff, reduceIte, reduceCtorEq, Nat.reduceSub, Int.reduceBEq, Int.reduceSub, Int.reduceAdd, Int.reduceToNat, Int.reduceLT, Int.reduceLE, Int.reduceEq, Int.reduceNeg, Int.reduceBNe, Int.reduceGT, Int.reduceGE, Nat.reduceMul, Nat.reduceMod, Nat.reduceDiv]
def arity (op : Int) : Int := if 0 ≤ op ∧ op ≤ 5 then 0 else if op = 6 ∨ op = 7 ∨ op = 20 then 1 else if op = 21 then 3 else if 8 ≤ op ∧ op ≤ 19 then 2 else -1
theorem op_cases (op : Int) (p : Int → Prop) (h0 : p 0) (h1 : p 1) (h2 : p 2) (h3 : p 3) (h4 : p 4) (h5 : p 5) (h6 : p 6) (h7 : p 7) (h8 : p 8) (h9 : p 9) (h10 : p 10) (h11 : p 11) (h12 : p 12) (h13 : p 13) (h14 : p 14) (h15 : p 15) (h16 : p 16) (h17 : p 17) (h18 : p 18) (h19 : p 19) (h20 : p 20) (h21 : p 21) (h22 : p 22) (h : (op < 0 ∨ 22 < op) → p op) : p op := by
  by_cases hr : op < 0 ∨ 22 < op
  · exact h hr
  · have : op = 0 ∨ op = 1 ∨ op = 2 ∨ op = 3 ∨ op = 4 ∨ op = 5 ∨ op = 6 ∨ op = 7 ∨ op = 8 ∨ op = 9 ∨ op = 10 ∨ op = 11 ∨ op = 12 ∨ op = 13 ∨ op = 14 ∨ op = 15 ∨ op = 16 ∨ op = 17 ∨ op = 18 ∨ op = 19 ∨ op = 20 ∨ op = 21 ∨ op = 22 := by omega
    rcases this with h | h | h | h | h | h | h | h | h | h | h | h | h | h | h | h | h | h | h | h | h | h | h <;> (subst h; assumption)
structure Far (op : Int) : Prop where
  h0 : (op == 0) = false
  h1 : (op == 1) = false
  h2 : (op == 2) = false
  h3 : (op == 3) = false
  h4 : (op == 4) = false
  h5 : (op == 5) = false
  h6 : (op == 6) = false
  h7 : (op == 7) = false
  h8 : (op == 8) = false
  h9 : (op == 9) = false
  h10 : (op == 10) = false
  h11 : (op == 11) = false
  h12 : (op == 12) = false
  h13 : (op == 13) = false
  h14 : (op == 14) = false
  h15 : (op == 15) = false
  h16 : (op == 16) = false
  h17 : (op == 17) = false
  h18 : (op == 18) = false
  h19 : (op == 19) = false
  h20 : (op == 20) = false
  h21 : (op == 21) = false
  h22 : (op == 22) = false
theorem far_of {op : Int} (h : op < 0 ∨ 22 < op) : Far op := by
  constructor <;> (rw [beq_eq_false_iff_ne]; omega)
theorem rnumber_ok (op : Int) : RR 100 [.pv (.int .i64 op)] [] = some (.pv (.int .i64 (arity op)), []) := by
  apply rnumber_r
  refine op_cases op (fun op => leaveR PP rnumber_rs ([] : List Mem).length (acodeX PP RR [] rnumber_L rnumber_b (enterN 25 rnumber_h [.pv (.int .i64 op)] [])) = some (.pv (.int .i64 (arity op)), [])) ?_ ?_ ?_ ?_ ?_ ?_ ?_ ?_ ?_ ?_ ?_ ?_ ?_ ?_ ?_ ?_ ?_ ?_ ?_ ?_ ?_ ?_ ?_ ?_
  case refine_24 =>
    intro h
    have f := far_of h
    have ha : arity op = -1 := by unfold arity; rw [if_neg (by omega), if_neg (by omega), if_neg (by omega), if_neg (by omega)]
    rw [ha]
    by_cases h5 : op > 5
    · have h21 : ¬ op < 21 := by omega
      simp only [rnumber_b, rnumber_h, rnumber_rs, Try.f100, f.h0, f.h1, f.h2, f.h3, f.h4, f.h5, f.h6, f.h7, f.h8, f.h9, f.h10, f.h11, f.h12, f.h13, f.h14, f.h15, f.h16, f.h17, f.h18, f.h19, f.h20, f.h21, f.h22, h5, h21, F.EVT, Am.splice, Am.enterN, Am.freshMem, Am.cA, Am.cB, Am.cK, Am.cL, Am.cS, Am.cT, Am.cE, Am.aresults, Am.aresult, Am.codeKey, Am.frzTop, Am.spliceP, Nat.reduceAdd, Nat.reduceLeDiff, Nat.reduceBEq, Nat.reduceEqDiff, reduceIte, reduceCtorEq, Nat.reduceSub, Int.reduceBEq, Int.reduceSub, Int.reduceAdd, Int.reduceToNat, Int.reduceLT, Int.reduceLE, Int.reduceEq, Int.reduceNeg, Int.reduceBNe, Int.reduceGT, Int.reduceGE, Nat.reduceMul, Nat.reduceMod, Nat.reduceDiv]
    · simp only [rnumber_b, rnumber_h, rnumber_rs, Try.f100, f.h0, f.h1, f.h2, f.h3, f.h4, f.h5, f.h6, f.h7, f.h8, f.h9, f.h10, f.h11, f.h12, f.h13, f.h14, f.h15, f.h16, f.h17, f.h18, f.h19, f.h20, f.h21, f.h22, h5, F.EVT, Am.splice, Am.enterN, Am.freshMem, Am.cA, Am.cB, Am.cK, Am.cL, Am.cS, Am.cT, Am.cE, Am.aresults, Am.aresult, Am.codeKey, Am.frzTop, Am.spliceP, Nat.reduceAdd, Nat.reduceLeDiff, Nat.reduceBEq, Nat.reduceEqDiff, reduceIte, reduceCtorEq, Nat.reduceSub, Int.reduceBEq, Int.reduceSub, Int.reduceAdd, Int.reduceToNat, Int.reduceLT, Int.reduceLE, Int.reduceEq, Int.reduceNeg, Int.reduceBNe, Int.reduceGT, Int.reduceGE, Nat.reduceMul, Nat.reduceMod, Nat.reduceDiv]
  all_goals
    simp only [rnumber_b, rnumber_h, rnumber_rs, Try.f100, F.EVT, Am.splice, Am.enterN, Am.freshMem, Am.cA, Am.cB, Am.cK, Am.cL, Am.cS, Am.cT, Am.cE, Am.aresults, Am.aresult, Am.codeKey, Am.frzTop, Am.spliceP, Nat.reduceAdd, Nat.reduceLeDiff, Nat.reduceBEq, Nat.reduceEqDiff, reduceIte, reduceCtorEq, Nat.reduceSub, Int.reduceBEq, Int.reduceSub, Int.reduceAdd, Int.reduceToNat, Int.reduceLT, Int.reduceLE, Int.reduceEq, Int.reduceNeg, Int.reduceBNe, Int.reduceGT, Int.reduceGE, Nat.reduceMul, Nat.reduceMod, Nat.reduceDiv]
    try rfl
end Go.Proofs.Ytjbmdfdgeioecaa.X
