/- Reads, by the document: the same list. -/
import Derived.Test.YtjbmdfdgeioecaaN51
import Derived.Test.YtjbmdfdgeioecaaN54
namespace Go.Proofs.Ytjbmdfdgeioecaa.X
open Go.Proofs.Ytjbmdfdgeioecaa.Am Go.Proofs.Ytjbmdfdgeioecaa.F
set_option linter.unusedVariables false
set_option linter.unusedSimpArgs false
set_option maxRecDepth 100000
set_option maxHeartbeats 1000000
mutual
def rdE : E → List Int | .mk op n _ args => rdL (if op == 3 then [n] else []) args
def rdL (l : List Int) : List E → List Int | [] => l | a :: as' => rdL ((rdE a).foldl withI l) as'
end
theorem rdE_eq (e : E) : rdE e = rdL (if e.op == 3 then [e.n] else []) e.args := by cases e; simp only [rdE, E.op, E.n, E.args]; rfl
theorem fold_mem (m : Int) : ∀ (k l : List Int), m ∈ k.foldl withI l ↔ m ∈ l ∨ m ∈ k
  | [], l => by simp
  | x :: k, l => by
    simp only [List.foldl_cons, fold_mem m k, withI_mem, List.mem_cons]
    constructor
    · rintro ((h | h) | h)
      · exact .inr (.inl h)
      · exact .inl h
      · exact .inr (.inr h)
    · rintro (h | h | h)
      · exact .inl (.inr h)
      · exact .inl (.inl h)
      · exact .inr h
theorem fold_asc : ∀ (k l : List Int), asc l → asc (k.foldl withI l)
  | [], l, h => h
  | x :: k, l, h => fold_asc k _ (withI_asc h)
theorem withI_len (n : Int) : ∀ l : List Int, (withI l n).length ≤ l.length + 1
  | [] => by simp [withI]
  | x :: l => by
    simp only [withI]
    have := withI_len n l
    split
    · simp only [List.length_cons]; omega
    · split
      · simp only [List.length_cons]; omega
      · simp only [List.length_cons]; omega
theorem fold_len : ∀ (k l : List Int), (k.foldl withI l).length ≤ l.length + k.length
  | [], l => by simp
  | x :: k, l => by
    simp only [List.foldl_cons, List.length_cons]
    have h1 := fold_len k (withI l x)
    have h2 := withI_len x l
    omega
mutual
theorem rdE_mem (m : Int) : ∀ e : E, m ∈ rdE e ↔ readsN m e = true
  | .mk op n s args => by
    simp only [rdE, readsN, rdL_mem m _ args, Bool.or_eq_true, Bool.and_eq_true]
    cases h : (op == 3)
    · simp
    · simp only [if_true, List.mem_singleton, true_and, beq_iff_eq]
      constructor
      · rintro (h | h)
        · exact .inl h.symm
        · exact .inr h
      · rintro (h | h)
        · exact .inl h.symm
        · exact .inr h
theorem rdL_mem (m : Int) : ∀ (l : List Int) (as' : List E), m ∈ rdL l as' ↔ m ∈ l ∨ readsNL m as' = true
  | l, [] => by simp [rdL, readsNL]
  | l, a :: as' => by simp only [rdL, readsNL, rdL_mem m _ as', fold_mem, rdE_mem m a, Bool.or_eq_true, or_assoc]
end
mutual
theorem rdE_asc : ∀ e : E, asc (rdE e)
  | .mk op n s args => by
    simp only [rdE]
    refine rdL_asc _ args ?_
    split <;> simp [asc]
theorem rdL_asc : ∀ (l : List Int) (as' : List E), asc l → asc (rdL l as')
  | l, [], h => by simp only [rdL]; exact h
  | l, a :: as', h => by simp only [rdL]; exact rdL_asc _ as' (fold_asc _ _ h)
end
mutual
theorem rdE_len : ∀ e : E, (rdE e).length ≤ parts e
  | .mk op n s args => by
    simp only [rdE, parts]
    have h1 := rdL_len (if op == 3 then [n] else []) args
    have h2 : (if op == 3 then [n] else []).length ≤ 1 := by split <;> simp
    omega
theorem rdL_len : ∀ (l : List Int) (as' : List E), (rdL l as').length ≤ l.length + partsL as'
  | l, [] => by simp only [rdL, partsL]; omega
  | l, a :: as' => by
    simp only [rdL, partsL]
    have h1 := rdL_len ((rdE a).foldl withI l) as'
    have h2 := fold_len (rdE a) l
    have h3 := rdE_len a
    omega
end
theorem sortI_asc {l : List Int} (h : l.Nodup) : asc (sortI l) := by
  have h1 : (sortI l).Pairwise (fun a b => leI a b = true) := by
    unfold sortI
    refine List.pairwise_mergeSort ?_ ?_ l
    · intro a b c; simp only [leI, decide_eq_true_eq]; omega
    · intro a b; simp only [leI, Bool.or_eq_true, decide_eq_true_eq]; omega
  have h2 : (sortI l).Nodup := (List.mergeSort_perm l leI).nodup_iff.mpr h
  refine (h1.and h2).imp fun {a b} hab => ?_
  obtain ⟨q1, q2⟩ := hab
  simp only [leI, decide_eq_true_eq] at q1
  omega
theorem sortI_mem {l : List Int} (n : Int) : n ∈ sortI l ↔ n ∈ l := (List.mergeSort_perm l leI).mem_iff
theorem reads_same (e : E) : sortI (colsE [] e) = rdE e := by
  refine asc_ext (sortI_asc (colsE_nodup [] e List.nodup_nil)) (rdE_asc e) fun n => ?_
  rw [sortI_mem, colsE_mem, rdE_mem]
  simp
/-! ### the document's code -/
def slR (b : Bool) (l : List Int) : AV := if b then .full (ints l) else .pv (.slc (ints l))
abbrev rd9 (b : Bool) (e : E) (l k : List Int) (i j : Int) : St := rReads_t9 (.ptr none 1 0) (slR b l) (I i) (.pv (.slc (ints k))) (I j) [⟨[(1, emem e)], []⟩]
theorem rReads_inner {e : E} {k : List Int} (i : Int) (hk : k.length ≤ 1000000) : ∀ (xs : List Int) (j : Nat) (b : Bool) (l : List Int), k.drop j = xs → j ≤ k.length → asc l → l.length + xs.length ≤ 1000000 →
    ∃ b', rReads_X9 (rd9 b e l k i j) = rReads_X9 (rd9 b' e (xs.foldl withI l) k i k.length)
  | [], j, b, l, h, hle, ha, hl => by
    have he : j = k.length := by have := drop_nil' h; omega
    subst he
    exact ⟨b, rfl⟩
  | x :: xs, j, b, l, h, hle, ha, hl => by
    obtain ⟨hlt, hi, hd⟩ := drop_cons h
    have hlt' : (j : Int) < k.length := by omega
    have hkl := ints_len k
    simp only [List.length_cons] at hl
    have hw := with_ok (n := x) (show l.length ≤ 1000000 by omega) ha
    have hwl := withI_len x l
    have hs : ∃ st', rReads_X9 (rd9 b e l k i j) = rReads_L 9 st' ∧ St.forget (rReads_h.at 9) st' = rd9 false e (withI l x) k i (j + 1 : Nat) := by
      cases b
      · rw [rReads_e9]; simp only [rReads_l9, rReads_b, rReads_rs, Try.f35, index_I hi, hkl, hlt', hw, slR, wrapS hlt (show k.length ≤ LIM by simp only [LIM]; omega), F.EVT, Am.splice, Am.enterN, Am.freshMem, Am.cA, Am.cB, Am.cK, Am.cL, Am.cS, Am.cT, Am.cE, Am.aresults, Am.aresult, Am.codeKey, Am.frzTop, Am.spliceP, Nat.reduceAdd, Nat.reduceLeDiff, Nat.reduceBEq, Nat.reduceEqDiff, reduceIte, reduceCtorEq, Nat.reduceSub, Int.reduceBEq, Int.reduceSub, Int.reduceAdd, Int.reduceToNat, Int.reduceLT, Int.reduceLE, Int.reduceEq, Int.reduceNeg, Int.reduceBNe, Int.reduceGT, Int.reduceGE, Nat.reduceMul, Nat.reduceMod, Nat.reduceDiv]
        exact ⟨_, rfl, by kernel_rfl⟩
      · rw [rReads_e9]; simp only [rReads_l9, rReads_b, rReads_rs, Try.f35, index_I hi, hkl, hlt', hw, slR, wrapS hlt (show k.length ≤ LIM by simp only [LIM]; omega), F.EVT, Am.splice, Am.enterN, Am.freshMem, Am.cA, Am.cB, Am.cK, Am.cL, Am.cS, Am.cT, Am.cE, Am.aresults, Am.aresult, Am.codeKey, Am.frzTop, Am.spliceP, Nat.reduceAdd, Nat.reduceLeDiff, Nat.reduceBEq, Nat.reduceEqDiff, reduceIte, reduceCtorEq, Nat.reduceSub, Int.reduceBEq, Int.reduceSub, Int.reduceAdd, Int.reduceToNat, Int.reduceLT, Int.reduceLE, Int.reduceEq, Int.reduceNeg, Int.reduceBNe, Int.reduceGT, Int.reduceGE, Nat.reduceMul, Nat.reduceMod, Nat.reduceDiv]
        exact ⟨_, rfl, by kernel_rfl⟩
    obtain ⟨st', g1, g2⟩ := hs
    obtain ⟨b', g3⟩ := rReads_inner i hk xs (j + 1) false (withI l x) hd hlt (withI_asc ha) (by omega)
    exact ⟨b', by rw [g1, rReads_q9, g2, g3]; rfl⟩
theorem rReads_loop {e : E} (hl : ∀ a ∈ e.args, RR 35 [a.av] [] = some (.pv (.slc (ints (rdE a))), [])) (hn : e.args.length ≤ 1000000) (hp : parts e ≤ 1000000) : ∀ (xs : List E) (i : Nat) (b : Bool) (l : List Int) (st : St), e.args.drop i = xs → i ≤ e.args.length → asc l → l.length + partsL xs ≤ 1000000 → rdL l xs = rdE e →
    St.forget (rReads_h.at 5) st = rReads_t5 (.ptr none 1 0) (slR b l) (I i) [⟨[(1, emem e)], []⟩] → leaveR PP rReads_rs 0 (thenC (blockC 0 (rReads_L 5 st)) (acodeX PP RR [] rReads_L rReads_k5)) = some (.pv (.slc (ints (rdE e))), [])
  | [], i, b, l, st, h, hle, ha, hb, hk, hst => by
    have he : i = e.args.length := by have := drop_nil' h; omega
    subst he
    rw [rReads_q5, hst, ← hk]
    simp only [rdL]
    cases b
    · rw [rReads_e5]; simp only [rReads_k5, rReads_l5, rReads_b, rReads_rs, Try.f35, Int.lt_irrefl, slR, F.EVT, Am.splice, Am.enterN, Am.freshMem, Am.cA, Am.cB, Am.cK, Am.cL, Am.cS, Am.cT, Am.cE, Am.aresults, Am.aresult, Am.codeKey, Am.frzTop, Am.spliceP, Nat.reduceAdd, Nat.reduceLeDiff, Nat.reduceBEq, Nat.reduceEqDiff, reduceIte, reduceCtorEq, Nat.reduceSub, Int.reduceBEq, Int.reduceSub, Int.reduceAdd, Int.reduceToNat, Int.reduceLT, Int.reduceLE, Int.reduceEq, Int.reduceNeg, Int.reduceBNe, Int.reduceGT, Int.reduceGE, Nat.reduceMul, Nat.reduceMod, Nat.reduceDiv]
      try rfl
    · rw [rReads_e5]; simp only [rReads_k5, rReads_l5, rReads_b, rReads_rs, Try.f35, Int.lt_irrefl, slR, F.EVT, Am.splice, Am.enterN, Am.freshMem, Am.cA, Am.cB, Am.cK, Am.cL, Am.cS, Am.cT, Am.cE, Am.aresults, Am.aresult, Am.codeKey, Am.frzTop, Am.spliceP, Nat.reduceAdd, Nat.reduceLeDiff, Nat.reduceBEq, Nat.reduceEqDiff, reduceIte, reduceCtorEq, Nat.reduceSub, Int.reduceBEq, Int.reduceSub, Int.reduceAdd, Int.reduceToNat, Int.reduceLT, Int.reduceLE, Int.reduceEq, Int.reduceNeg, Int.reduceBNe, Int.reduceGT, Int.reduceGE, Nat.reduceMul, Nat.reduceMod, Nat.reduceDiv]
      try rfl
  | x :: xs, i, b, l, st, h, hle, ha, hb, hk, hst => by
    obtain ⟨hlt, hi, hd⟩ := drop_cons h
    have hlt' : (i : Int) < e.args.length := by omega
    have hx := hl x (List.mem_of_getElem? hi)
    simp only [E.av] at hx
    simp only [partsL] at hb
    have hxl := rdE_len x
    have hfl := fold_len (rdE x) l
    have hkl := ints_len (rdE x)
    obtain ⟨b', hin⟩ := rReads_inner (e := e) (k := rdE x) i (by omega) (rdE x) 0 b l rfl (Nat.zero_le _) ha (by omega)
    have hgo : ∀ st : St, St.forget (rReads_h.at 9) st = rd9 b e l (rdE x) i (0 : Nat) → rReads_L 9 st = rReads_X9 (rd9 b' e ((rdE x).foldl withI l) (rdE x) i (rdE x).length) := fun st h => by rw [rReads_q9, h, hin]
    have ih := fun b l' => rReads_loop hl hn hp xs (i + 1) b l'
    rw [rReads_q5, hst]
    have hk' : rdL ((rdE x).foldl withI l) xs = rdE e := by rw [← hk]; simp only [rdL]
    have ha' := fold_asc (rdE x) l ha
    have hb' : ((rdE x).foldl withI l).length + partsL xs ≤ 1000000 := by omega
    generalize (rdE x).foldl withI l = l' at hgo hk' ha' hb'
    generalize hr : (some (AV.pv (.slc (ints (rdE e))), ([] : List Mem))) = r at ih ⊢
    generalize rdE x = k at hgo hx hkl
    clear hin hl
    cases b'
    · cases b
      all_goals
        rw [rReads_e5]; simp only [rReads_l5, rReads_b, rReads_rs, Try.f35, index_E hi, hlt', hx, slR, F.EVT, Am.splice, Am.enterN, Am.freshMem, Am.cA, Am.cB, Am.cK, Am.cL, Am.cS, Am.cT, Am.cE, Am.aresults, Am.aresult, Am.codeKey, Am.frzTop, Am.spliceP, Nat.reduceAdd, Nat.reduceLeDiff, Nat.reduceBEq, Nat.reduceEqDiff, reduceIte, reduceCtorEq, Nat.reduceSub, Int.reduceBEq, Int.reduceSub, Int.reduceAdd, Int.reduceToNat, Int.reduceLT, Int.reduceLE, Int.reduceEq, Int.reduceNeg, Int.reduceBNe, Int.reduceGT, Int.reduceGE, Nat.reduceMul, Nat.reduceMod, Nat.reduceDiv]
        rw [hgo _ (by kernel_rfl)]
        simp only [rd9, slR]
        rw [rReads_e9]; simp only [rReads_l9, rReads_b, rReads_rs, Try.f35, Int.lt_irrefl, hkl, wrapS hlt (show e.args.length ≤ LIM by simp only [LIM]; omega), F.EVT, Am.splice, Am.enterN, Am.freshMem, Am.cA, Am.cB, Am.cK, Am.cL, Am.cS, Am.cT, Am.cE, Am.aresults, Am.aresult, Am.codeKey, Am.frzTop, Am.spliceP, Nat.reduceAdd, Nat.reduceLeDiff, Nat.reduceBEq, Nat.reduceEqDiff, reduceIte, reduceCtorEq, Nat.reduceSub, Int.reduceBEq, Int.reduceSub, Int.reduceAdd, Int.reduceToNat, Int.reduceLT, Int.reduceLE, Int.reduceEq, Int.reduceNeg, Int.reduceBNe, Int.reduceGT, Int.reduceGE, Nat.reduceMul, Nat.reduceMod, Nat.reduceDiv]
        exact ih false l' _ hd hlt ha' hb' hk' (by kernel_rfl)
    · cases b
      all_goals
        rw [rReads_e5]; simp only [rReads_l5, rReads_b, rReads_rs, Try.f35, index_E hi, hlt', hx, slR, F.EVT, Am.splice, Am.enterN, Am.freshMem, Am.cA, Am.cB, Am.cK, Am.cL, Am.cS, Am.cT, Am.cE, Am.aresults, Am.aresult, Am.codeKey, Am.frzTop, Am.spliceP, Nat.reduceAdd, Nat.reduceLeDiff, Nat.reduceBEq, Nat.reduceEqDiff, reduceIte, reduceCtorEq, Nat.reduceSub, Int.reduceBEq, Int.reduceSub, Int.reduceAdd, Int.reduceToNat, Int.reduceLT, Int.reduceLE, Int.reduceEq, Int.reduceNeg, Int.reduceBNe, Int.reduceGT, Int.reduceGE, Nat.reduceMul, Nat.reduceMod, Nat.reduceDiv]
        rw [hgo _ (by kernel_rfl)]
        simp only [rd9, slR]
        rw [rReads_e9]; simp only [rReads_l9, rReads_b, rReads_rs, Try.f35, Int.lt_irrefl, hkl, wrapS hlt (show e.args.length ≤ LIM by simp only [LIM]; omega), F.EVT, Am.splice, Am.enterN, Am.freshMem, Am.cA, Am.cB, Am.cK, Am.cL, Am.cS, Am.cT, Am.cE, Am.aresults, Am.aresult, Am.codeKey, Am.frzTop, Am.spliceP, Nat.reduceAdd, Nat.reduceLeDiff, Nat.reduceBEq, Nat.reduceEqDiff, reduceIte, reduceCtorEq, Nat.reduceSub, Int.reduceBEq, Int.reduceSub, Int.reduceAdd, Int.reduceToNat, Int.reduceLT, Int.reduceLE, Int.reduceEq, Int.reduceNeg, Int.reduceBNe, Int.reduceGT, Int.reduceGE, Nat.reduceMul, Nat.reduceMod, Nat.reduceDiv]
        exact ih true l' _ hd hlt ha' hb' hk' (by kernel_rfl)
theorem rReads_ok : ∀ e : E, parts e ≤ 1000000 → RR 35 [e.av] [] = some (.pv (.slc (ints (rdE e))), []) := by
  apply E.ind
  intro e ih hp
  have hp' := hp
  rw [parts_eq] at hp
  have hn : e.args.length ≤ 1000000 := by have := partsL_len e.args; omega
  have hloop := rReads_loop (e := e) (fun a ha => ih a ha (by have := partsL_mem ha; omega)) hn hp' e.args 0
  apply rReads_r
  generalize hr : (some (AV.pv (.slc (ints (rdE e))), ([] : List Mem))) = r at hloop ⊢
  simp only [av_e e]
  cases h3 : (e.op == 3)
  · simp only [rReads_b, rReads_h, rReads_rs, Try.f35, h3, F.EVT, Am.splice, Am.enterN, Am.freshMem, Am.cA, Am.cB, Am.cK, Am.cL, Am.cS, Am.cT, Am.cE, Am.aresults, Am.aresult, Am.codeKey, Am.frzTop, Am.spliceP, Nat.reduceAdd, Nat.reduceLeDiff, Nat.reduceBEq, Nat.reduceEqDiff, reduceIte, reduceCtorEq, Nat.reduceSub, Int.reduceBEq, Int.reduceSub, Int.reduceAdd, Int.reduceToNat, Int.reduceLT, Int.reduceLE, Int.reduceEq, Int.reduceNeg, Int.reduceBNe, Int.reduceGT, Int.reduceGE, Nat.reduceMul, Nat.reduceMod, Nat.reduceDiv]
    exact hloop true [] _ rfl (Nat.zero_le _) (by simp [asc]) (by simp; omega) (by rw [rdE_eq, h3]; rfl) (by kernel_rfl)
  · simp only [rReads_b, rReads_h, rReads_rs, Try.f35, h3, F.EVT, Am.splice, Am.enterN, Am.freshMem, Am.cA, Am.cB, Am.cK, Am.cL, Am.cS, Am.cT, Am.cE, Am.aresults, Am.aresult, Am.codeKey, Am.frzTop, Am.spliceP, Nat.reduceAdd, Nat.reduceLeDiff, Nat.reduceBEq, Nat.reduceEqDiff, reduceIte, reduceCtorEq, Nat.reduceSub, Int.reduceBEq, Int.reduceSub, Int.reduceAdd, Int.reduceToNat, Int.reduceLT, Int.reduceLE, Int.reduceEq, Int.reduceNeg, Int.reduceBNe, Int.reduceGT, Int.reduceGE, Nat.reduceMul, Nat.reduceMod, Nat.reduceDiv]
    exact hloop true [e.n] _ rfl (Nat.zero_le _) (by simp [asc]) (by simp; omega) (by rw [rdE_eq, h3]; rfl) (by kernel_rfl)
/-! ### two lists of numbers -/
theorem ints_same_loop {l : List Int} (hn : l.length ≤ 1000000) : ∀ (xs : List Int) (i : Nat) (st : St), l.drop i = xs → i ≤ l.length →
    St.forget (ints_h.at 4) st = ints_t4 (.pv (.slc (ints l))) (.pv (.slc (ints l))) (I i) [⟨[], []⟩] → leaveR PP ints_rs 0 (thenC (blockC 0 (ints_L 4 st)) (acodeX PP RR [] ints_L ints_k4)) = some (B true, [])
  | [], i, st, h, hle, hst => by
    have he : i = l.length := by have := drop_nil' h; omega
    subst he
    have hl := ints_len l
    rw [ints_q4, hst]
    rw [ints_e4]; simp only [ints_k4, ints_l4, ints_b, ints_rs, Try.f34, Int.lt_irrefl, hl, F.EVT, Am.splice, Am.enterN, Am.freshMem, Am.cA, Am.cB, Am.cK, Am.cL, Am.cS, Am.cT, Am.cE, Am.aresults, Am.aresult, Am.codeKey, Am.frzTop, Am.spliceP, Nat.reduceAdd, Nat.reduceLeDiff, Nat.reduceBEq, Nat.reduceEqDiff, reduceIte, reduceCtorEq, Nat.reduceSub, Int.reduceBEq, Int.reduceSub, Int.reduceAdd, Int.reduceToNat, Int.reduceLT, Int.reduceLE, Int.reduceEq, Int.reduceNeg, Int.reduceBNe, Int.reduceGT, Int.reduceGE, Nat.reduceMul, Nat.reduceMod, Nat.reduceDiv]
    try rfl
  | x :: xs, i, st, h, hle, hst => by
    obtain ⟨hlt, hi, hd⟩ := drop_cons h
    have hlt' : (i : Int) < l.length := by omega
    have hl := ints_len l
    rw [ints_q4, hst]
    rw [ints_e4]; simp only [ints_l4, ints_b, ints_rs, Try.f34, index_I hi, hlt', hl, bne_self_eq_false, wrapS hlt (show l.length ≤ LIM by simp only [LIM]; omega), F.EVT, Am.splice, Am.enterN, Am.freshMem, Am.cA, Am.cB, Am.cK, Am.cL, Am.cS, Am.cT, Am.cE, Am.aresults, Am.aresult, Am.codeKey, Am.frzTop, Am.spliceP, Nat.reduceAdd, Nat.reduceLeDiff, Nat.reduceBEq, Nat.reduceEqDiff, reduceIte, reduceCtorEq, Nat.reduceSub, Int.reduceBEq, Int.reduceSub, Int.reduceAdd, Int.reduceToNat, Int.reduceLT, Int.reduceLE, Int.reduceEq, Int.reduceNeg, Int.reduceBNe, Int.reduceGT, Int.reduceGE, Nat.reduceMul, Nat.reduceMod, Nat.reduceDiv]
    exact ints_same_loop hn xs (i + 1) _ hd hlt (by kernel_rfl)
theorem ints_same {l : List Int} (hn : l.length ≤ 1000000) : RR 34 [.pv (.slc (ints l)), .pv (.slc (ints l))] [] = some (B true, []) := by
  have hloop := ints_same_loop hn l 0
  have hl := ints_len l
  apply ints_r
  simp only [ints_b, ints_h, ints_rs, Try.f34, hl, bne_self_eq_false, F.EVT, Am.splice, Am.enterN, Am.freshMem, Am.cA, Am.cB, Am.cK, Am.cL, Am.cS, Am.cT, Am.cE, Am.aresults, Am.aresult, Am.codeKey, Am.frzTop, Am.spliceP, Nat.reduceAdd, Nat.reduceLeDiff, Nat.reduceBEq, Nat.reduceEqDiff, reduceIte, reduceCtorEq, Nat.reduceSub, Int.reduceBEq, Int.reduceSub, Int.reduceAdd, Int.reduceToNat, Int.reduceLT, Int.reduceLE, Int.reduceEq, Int.reduceNeg, Int.reduceBNe, Int.reduceGT, Int.reduceGE, Nat.reduceMul, Nat.reduceMod, Nat.reduceDiv]
  exact hloop _ rfl (Nat.zero_le _) (by kernel_rfl)
end Go.Proofs.Ytjbmdfdgeioecaa.X
