/- Levels. -/
import Derived.Test.YtjbmdfdgeioecaaE0
namespace Go.Proofs.Ytjbmdfdgeioecaa.X
open Go.Proofs.Ytjbmdfdgeioecaa.Am Go.Proofs.Ytjbmdfdgeioecaa.F
set_option linter.unusedVariables false
set_option linter.unusedSimpArgs false
set_option maxRecDepth 100000
theorem wrap_succ {i n : Nat} (h : i < n) (hn : n ≤ 1000000000) : IntKind.i64.wrap ((i : Int) + 1) = ((i + 1 : Nat) : Int) := by
  rw [wrap_ok (by omega) (by omega)]; omega
theorem drop_cons {α : Type} {l : List α} {i : Nat} {x : α} {xs : List α} (h : l.drop i = x :: xs) : i < l.length ∧ l[i]? = some x ∧ l.drop (i + 1) = xs := by
  have hi : i < l.length := by
    rcases Nat.lt_or_ge i l.length with h1 | h1
    · exact h1
    · rw [List.drop_of_length_le h1] at h
      cases h
  rw [List.drop_eq_getElem_cons hi] at h
  injection h with h1 h2
  exact ⟨hi, by rw [List.getElem?_eq_getElem hi, h1], h2⟩
theorem drop_nil' {α : Type} {l : List α} {i : Nat} (h : l.drop i = []) : l.length ≤ i := List.drop_eq_nil_iff.1 h
mutual
def levels : E → Nat | .mk _ _ _ args => levelsL args + 1
def levelsL : List E → Nat | [] => 0 | a :: l => max (levels a) (levelsL l)
end
theorem levels_eq (e : E) : levels e = levelsL e.args + 1 := by cases e; simp only [levels, E.args]
theorem max_cast (a b : Nat) : (if (b : Int) > (a : Int) then (b : Int) else (a : Int)) = ((max a b : Nat) : Int) := by split <;> omega
mutual
def parts : E → Nat | .mk _ _ _ args => partsL args + 1
def partsL : List E → Nat | [] => 0 | a :: l => parts a + partsL l
end
theorem parts_eq (e : E) : parts e = partsL e.args + 1 := by cases e; simp only [parts, E.args]
theorem parts_pos (e : E) : 1 ≤ parts e := by rw [parts_eq]; omega
theorem partsL_len : ∀ l : List E, l.length ≤ partsL l
  | [] => Nat.le_refl 0
  | a :: l => by have := partsL_len l; have := parts_pos a; simp only [partsL, List.length_cons]; omega
theorem partsL_mem {a : E} : ∀ {l : List E}, a ∈ l → parts a ≤ partsL l
  | b :: l, h => by
    simp only [partsL]
    rcases List.mem_cons.mp h with rfl | h
    · omega
    · have := partsL_mem h; omega
mutual
theorem levels_parts : ∀ e : E, levels e ≤ parts e
  | .mk o n s args => by simp only [levels, parts]; have := levelsL_parts args; omega
theorem levelsL_parts : ∀ l : List E, levelsL l ≤ partsL l
  | [] => Nat.le_refl 0
  | a :: l => by simp only [levelsL, partsL]; have := levels_parts a; have := levelsL_parts l; omega
end
theorem levels_loop {l : List E} (hn : l.length ≤ 1000000000) (hl : ∀ a ∈ l, RR 46 [a.av] [] = some (.pv (.int .i64 (levels a)), [])) : ∀ (xs : List E) (i acc : Nat), l.drop i = xs → i ≤ l.length →
    levels_X3 (levels_t3 (.pv (.int .i64 acc)) (.pv (.slc (l.map E.pv))) (.pv (.int .i64 l.length)) (.pv (.int .i64 i)) [⟨[], []⟩]) =
      some (.exit 0, (levels_t3 (.pv (.int .i64 (max acc (levelsL xs) : Nat))) (.pv (.slc (l.map E.pv))) (.pv (.int .i64 l.length)) (.pv (.int .i64 l.length)) [⟨[], []⟩]).put (some 10) (.pv (.bool false)))
  | [], i, acc, h, hle => by
    have h0 := drop_nil' h
    have he : i = l.length := by omega
    subst he
    rw [levels_e3]
    simp only [levels_l3, levels_b, Try.f46, Int.lt_irrefl, levelsL, Nat.max_zero, F.EVT, Am.splice, Am.enterN, Am.freshMem, Am.cA, Am.cB, Am.cK, Am.cL, Am.cS, Am.cT, Am.cE, Am.aresults, Am.aresult, Am.codeKey, Nat.reduceAdd, Nat.reduceLeDiff, Nat.reduceBEq, Nat.reduceEqDiff, reduceIte, reduceCtorEq, Nat.reduceSub, Int.reduceBEq, Int.reduceSub, Int.reduceAdd, Int.reduceToNat, Int.reduceLT, Int.reduceLE, Int.reduceEq, Int.reduceNeg, Int.reduceBNe, Int.reduceGT, Int.reduceGE, Nat.reduceMul, Nat.reduceMod, Nat.reduceDiv]
  | a :: xs, i, acc, h, hle => by
    obtain ⟨hlt, hi, hd⟩ := drop_cons h
    have hr := hl a (List.mem_of_getElem? hi)
    simp only [E.av] at hr
    have hlt' : (i : Int) < l.length := by omega
    rw [levels_e3]
    simp only [levels_l3, levels_b, Try.f46, index_E hi, hlt', hr, wrap_succ hlt hn, max_cast, F.EVT, Am.splice, Am.enterN, Am.freshMem, Am.cA, Am.cB, Am.cK, Am.cL, Am.cS, Am.cT, Am.cE, Am.aresults, Am.aresult, Am.codeKey, Nat.reduceAdd, Nat.reduceLeDiff, Nat.reduceBEq, Nat.reduceEqDiff, reduceIte, reduceCtorEq, Nat.reduceSub, Int.reduceBEq, Int.reduceSub, Int.reduceAdd, Int.reduceToNat, Int.reduceLT, Int.reduceLE, Int.reduceEq, Int.reduceNeg, Int.reduceBNe, Int.reduceGT, Int.reduceGE, Nat.reduceMul, Nat.reduceMod, Nat.reduceDiv]
    rw [levels_q3]
    refine Eq.trans (congrArg levels_X3 (by kernel_rfl)) ((levels_loop hn hl xs (i + 1) (max acc (levels a)) hd hlt).trans ?_)
    rw [levelsL, Nat.max_assoc]
    rfl
theorem levels_ok : ∀ (e : E), parts e ≤ 1000000 → RR 46 [e.av] [] = some (.pv (.int .i64 (levels e)), []) := by
  apply E.ind
  intro e ih hp
  rw [parts_eq] at hp
  have hn : e.args.length ≤ 1000000000 := by have := partsL_len e.args; omega
  have hloop := levels_loop hn (fun a ha => ih a ha (by have := partsL_mem ha; omega)) e.args 0 0 rfl (Nat.zero_le _)
  have hL : ∀ st, St.forget (levels_h.at 3) st = _ → levels_L 3 st = _ := fun st h => (levels_q3 st).trans ((congrArg levels_X3 h).trans hloop)
  apply levels_r
  simp only [levels_b, Try.f46, E.av, F.EVT, Am.splice, Am.enterN, Am.freshMem, Am.cA, Am.cB, Am.cK, Am.cL, Am.cS, Am.cT, Am.cE, Am.aresults, Am.aresult, Am.codeKey, Nat.reduceAdd, Nat.reduceLeDiff, Nat.reduceBEq, Nat.reduceEqDiff, reduceIte, reduceCtorEq, Nat.reduceSub, Int.reduceBEq, Int.reduceSub, Int.reduceAdd, Int.reduceToNat, Int.reduceLT, Int.reduceLE, Int.reduceEq, Int.reduceNeg, Int.reduceBNe, Int.reduceGT, Int.reduceGE, Nat.reduceMul, Nat.reduceMod, Nat.reduceDiv]
  rw [hL _ ?h]
  case h => kernel_rfl
  simp only [F.EVT, Am.splice, Am.enterN, Am.freshMem, Am.cA, Am.cB, Am.cK, Am.cL, Am.cS, Am.cT, Am.cE, Am.aresults, Am.aresult, Am.codeKey, Nat.reduceAdd, Nat.reduceLeDiff, Nat.reduceBEq, Nat.reduceEqDiff, reduceIte, reduceCtorEq, Nat.reduceSub, Int.reduceBEq, Int.reduceSub, Int.reduceAdd, Int.reduceToNat, Int.reduceLT, Int.reduceLE, Int.reduceEq, Int.reduceNeg, Int.reduceBNe, Int.reduceGT, Int.reduceGE, Nat.reduceMul, Nat.reduceMod, Nat.reduceDiv]
  have := levelsL_parts e.args
  rw [levels_eq, Nat.zero_max, wrap_ok (by omega) (by omega)]
  rfl
end Go.Proofs.Ytjbmdfdgeioecaa.X
