/- Levels. -/
import Derived.Test.YtjbmdfdgeioecaaE0
namespace Go.Proofs.Ytjbmdfdgeioecaa.X
open Go.Proofs.Ytjbmdfdgeioecaa.Am Go.Proofs.Ytjbmdfdgeioecaa.F
set_option linter.unusedVariables false
set_option linter.unusedSimpArgs false
set_option maxRecDepth 100000
theorem wrap_succ {i n : Nat} (h : i < n) (hn : n ≤ 1000000000) : IntKind.i64.wrap ((i : Int) + 1) = ((i + 1 : Nat) : Int) := by
  rw [wrap_ok (by omega) (by omega)]; omega
theorem drop_cons {α : Type} {l : List α} {i : Nat} {x : α} {xs : List α} (h : l.drop i = x :: xs) : i < l.length ∧ l[i]? = some x ∧ l.drop (i + 1) = xs := by
  have hi : i < l.length := by
    rcases Nat.lt_or_ge i l.length with h1 | h1
    · exact h1
    · rw [List.drop_of_length_le h1] at h
      cases h
  rw [List.drop_eq_getElem_cons hi] at h
  injection h with h1 h2
  exact ⟨hi, by rw [List.getElem?_eq_getElem hi, h1], h2⟩
theorem drop_nil' {α : Type} {l : List α} {i : Nat} (h : l.drop i = []) : l.length ≤ i := List.drop_eq_nil_iff.1 h
mutual
def levels : E → Nat | .mk _ _ _ args => levelsL args + 1
def levelsL : List E → Nat | [] => 0 | a :: l => max (levels a) (levelsL l)
end
theorem levels_eq (e : E) : levels e = levelsL e.args + 1 := by cases e; simp only [levels, E.args]
theorem max_cast (a b : Nat) : (if (b : Int) > (a : Int) then (b : Int) else (a : Int)) = ((max a b : Nat) : Int) := by split <;> omega
mutual
def parts : E → Nat | .mk _ _ _ args => partsL args + 1
def partsL : List E → Nat | [] => 0 | a :: l => parts a + partsL l
end
theorem parts_eq (e : E) : parts e = partsL e.args + 1 := by cases e; simp only [parts, E.args]
theorem parts_pos (e : E) : 1 ≤ parts e := by rw [parts_eq]; omega
theorem partsL_len : ∀ l : List E, l.length ≤ partsL l
  | [] => Nat.le_refl 0
  | a :: l => by have := partsL_len l; have := parts_pos a; simp only [partsL, List.length_cons]; omega
theorem partsL_mem {a : E} : ∀ {l : List E}, a ∈ l → parts a ≤ partsL l
  | b :: l, h => by
    simp only [partsL]
    rcases List.mem_cons.mp h with rfl | h
    · omega
    · have := partsL_mem h; omega
mutual
theorem levels_parts : ∀ e : E, levels e ≤ parts e
  | .mk o n s args => by simp only [levels, parts]; have := levelsL_parts args; omega
theorem levelsL_parts : ∀ l : List E, levelsL l ≤ partsL l
  | [] => Nat.le_refl 0
  | a :: l => by simp only [levelsL, partsL]; have := levels_parts a; have := levelsL_parts l; omega
end
theorem levels_loop {l : List E} (hn : l.length ≤ 1000000000) (hl : ∀ a ∈ l, RR 46 [a.av] [] = some (.pv (.int .i64 (levels a)), [])) : ∀ (xs : List E) (i acc : Nat), l.drop i = xs → i ≤ l.length →
    levels_X3 (levels_t3 (.pv (.int .i64 acc)) (.pv (.slc (l.map E.pv))) (.pv (.int .i64 l.length)) (.pv (.int .i64 i)) [⟨[], []⟩]) =
      some (.exit 0, (levels_t3 (.pv (.int .i64 (max acc (levelsL xs) : Nat))) (.pv (.slc (l.map E.pv))) (.pv (.int .i64 l.length)) (.pv (.int .i64 l.length)) [⟨[], []⟩]).put (some 10) (.pv (.bool false)))
  | [], i, acc, h, hle => by
    have h0 := drop_nil' h
    have he : i = l.length := by omega
    subst he
    rw [levels_e3]
    simp only [levels_l3, levels_b, Try.f46, Int.lt_irrefl, levelsL, Nat.max_zero, F.EVT, Am.splice, Am.enterN, Am.freshMem, Am.cA, Am.cB, Am.cK, Am.cL, Am.cS, Am.cT, Am.cE, Am.aresults, Am.aresult, Am.codeKey, Am.frzTop, Am.spliceP, Nat.reduceAdd, Nat.reduceLeDiff, Nat.reduceBEq, Nat.reduceEqDiff, reduceIte, reduceCtorEq, Nat.reduceSub, Int.reduceBEq, Int.reduceSub, Int.reduceAdd, Int.reduceToNat, Int.reduceLT, Int.reduceLE, Int.reduceEq, Int.reduceNeg, Int.reduceBNe, Int.reduceGT, Int.reduceGE, Nat.reduceMul, Nat.reduceMod, Nat.reduceDiv]
  | a :: xs, i, acc, h, hle => by
    obtain ⟨hlt, hi, hd⟩ := drop_cons h
    have hr := hl a (List.mem_of_getElem? hi)
    simp only [E.av] at hr
    have hlt' : (i : Int) < l.length := by omega
    rw [levels_e3]
    simp only [levels_l3, levels_b, Try.f46, index_E hi, hlt', hr, wrap_succ hlt hn, max_cast, F.EVT, Am.splice, Am.enterN, Am.freshMem, Am.cA, Am.cB, Am.cK, Am.cL, Am.cS, Am.cT, Am.cE, Am.aresults, Am.aresult, Am.codeKey, Am.frzTop, Am.spliceP, Nat.reduceAdd, Nat.reduceLeDiff, Nat.reduceBEq, Nat.reduceEqDiff, reduceIte, reduceCtorEq, Nat.reduceSub, Int.reduceBEq, Int.reduceSub, Int.reduceAdd, Int.reduceToNat, Int.reduceLT, Int.reduceLE, Int.reduceEq, Int.reduceNeg, Int.reduceBNe, Int.reduceGT, Int.reduceGE, Nat.reduceMul, Nat.reduceMod, Nat.reduceDiv]
    rw [levels_q3]
    refine Eq.trans (congrArg levels_X3 (by kernel_rfl)) ((levels_loop hn hl xs (i + 1) (max acc (levels a)) hd hlt).trans ?_)
    rw [levelsL, Nat.max_assoc]
    rfl
theorem levels_ok : ∀ (e : E), parts e ≤ 1000000 → RR 46 [e.av] [] = some (.pv (.int .i64 (levels e)), []) := by
  apply E.ind
  intro e ih hp
  rw [parts_eq] at hp
  have hn : e.args.length ≤ 1000000000 := by have := partsL_len e.args; omega
  have hloop := levels_loop hn (fun a ha => ih a ha (by have := partsL_mem ha; omega)) e.args 0 0 rfl (Nat.zero_le _)
  have hL : ∀ st, St.forget (levels_h.at 3) st = _ → levels_L 3 st = _ := fun st h => (levels_q3 st).trans ((congrArg levels_X3 h).trans hloop)
  apply levels_r
  simp only [levels_b, Try.f46, E.av, F.EVT, Am.splice, Am.enterN, Am.freshMem, Am.cA, Am.cB, Am.cK, Am.cL, Am.cS, Am.cT, Am.cE, Am.aresults, Am.aresult, Am.codeKey, Am.frzTop, Am.spliceP, Nat.reduceAdd, Nat.reduceLeDiff, Nat.reduceBEq, Nat.reduceEqDiff, reduceIte, reduceCtorEq, Nat.reduceSub, Int.reduceBEq, Int.reduceSub, Int.reduceAdd, Int.reduceToNat, Int.reduceLT, Int.reduceLE, Int.reduceEq, Int.reduceNeg, Int.reduceBNe, Int.reduceGT, Int.reduceGE, Nat.reduceMul, Nat.reduceMod, Nat.reduceDiv]
  rw [hL _ ?h]
  case h => kernel_rfl
  simp only [F.EVT, Am.splice, Am.enterN, Am.freshMem, Am.cA, Am.cB, Am.cK, Am.cL, Am.cS, Am.cT, Am.cE, Am.aresults, Am.aresult, Am.codeKey, Am.frzTop, Am.spliceP, Nat.reduceAdd, Nat.reduceLeDiff, Nat.reduceBEq, Nat.reduceEqDiff, reduceIte, reduceCtorEq, Nat.reduceSub, Int.reduceBEq, Int.reduceSub, Int.reduceAdd, Int.reduceToNat, Int.reduceLT, Int.reduceLE, Int.reduceEq, Int.reduceNeg, Int.reduceBNe, Int.reduceGT, Int.reduceGE, Nat.reduceMul, Nat.reduceMod, Nat.reduceDiv]
  have := levelsL_parts e.args
  rw [levels_eq, Nat.zero_max, wrap_ok (by omega) (by omega)]
  rfl
theorem av_e (e : E) : e.av = .agg [.pv (.int .i64 e.op), .pv (.int .i64 e.n), .pv (.str e.s), .pv (.slc (e.args.map E.pv))] := rfl
theorem n01 (n : Nat) : (0 = n + 1) = False := by simp
theorem setAt_twice {β : Type} (s : Nat) (a b : β) : ∀ l : List (Nat × β), setAt s b (setAt s a l) = setAt s b l
  | [] => by simp [setAt]
  | (s', c) :: l => by
    by_cases h : s' = s
    · simp [setAt, h]
    · simp [setAt, h, setAt_twice s a b l]
theorem modMem_twice (f g : Mem → Mem) : ∀ (ms : List Mem) (d : Nat), modMem f (modMem g ms d) d = modMem (fun m => f (g m)) ms d
  | [], d => rfl
  | m :: ms, d => by
    by_cases h : d = ms.length
    · simp [modMem, h]
    · simp [modMem, h, modMem_length, modMem_twice f g ms d]
theorem setVar_twice (ms : List Mem) (d s : Nat) (a b : List AV) : setVar (setVar ms d s a) d s b = setVar ms d s b := by
  unfold setVar
  rw [modMem_twice]
  congr 1
  funext m
  simp only [setAt_twice]
theorem setAt_same {β : Type} {s : Nat} {a : β} : ∀ {l : List (Nat × β)}, l.lookup s = some a → setAt s a l = l
  | [], h => by simp at h
  | (s', c) :: l, h => by
    by_cases hs : s = s'
    · subst hs; simp at h; subst h; simp [setAt]
    · have hb : (s == s') = false := by simpa using hs
      rw [List.lookup_cons, hb] at h
      simp only [setAt]
      rw [if_neg (fun q => hs q.symm), setAt_same h]
theorem modMem_same {f : Mem → Mem} : ∀ {ms : List Mem} {d : Nat}, (∀ m, memAt ms d = some m → f m = m) → modMem f ms d = ms
  | [], d, h => rfl
  | m :: ms, d, h => by
    by_cases hd : d = ms.length
    · simp only [modMem, if_pos hd]; rw [h m (by simp [memAt, hd])]
    · simp only [modMem, if_neg hd]; rw [modMem_same (fun x hx => h x (by simp [memAt, hd, hx]))]
theorem setVar_same {ms : List Mem} {d s : Nat} {cs : List AV} (h : varAt ms d s = some cs) : setVar ms d s cs = ms := by
  unfold setVar
  refine modMem_same fun m hm => ?_
  unfold varAt at h
  rw [hm] at h
  have h' : m.vars.lookup s = some cs := h
  rw [setAt_same h']
theorem setVar_shape (m : Mem) (ms : List Mem) (d s : Nat) (a : List AV) : ∃ m' ms', setVar (m :: ms) d s a = m' :: ms' ∧ ms'.length = ms.length := by
  unfold setVar modMem
  split
  · exact ⟨_, _, rfl, rfl⟩
  · exact ⟨_, _, rfl, modMem_length _ _ _⟩
theorem varAt_some {ms : List Mem} {d s : Nat} {x cs : List AV} (h : varAt ms d s = some x) : varAt (setVar ms d s cs) d s = some cs := by
  rw [varAt_setVar, if_pos]
  refine ⟨rfl, rfl, ?_⟩
  unfold varAt at h
  cases hm : memAt ms d with
  | none => rw [hm] at h; cases h
  | some m => rfl
theorem varAt_up (m m0 : Mem) (ms : List Mem) (s : Nat) : varAt (m :: m0 :: ms) 0 s = varAt (m0 :: ms) 0 s := by
  rw [varAt_cons, if_neg (by simp)]
theorem setVar_up (m m0 : Mem) (ms : List Mem) (s : Nat) (cs : List AV) : setVar (m :: m0 :: ms) 0 s cs = m :: setVar (m0 :: ms) 0 s cs := by
  obtain ⟨vs, tk⟩ := m
  rw [setVar_cons, if_neg (by simp)]
end Go.Proofs.Ytjbmdfdgeioecaa.X
