/- Replacing columns, or parameters, by expressions: the whole. -/
import Derived.Test.YtjbmdfdgeioecaaN8
import Derived.Test.YtjbmdfdgeioecaaN35
namespace Go.Proofs.Ytjbmdfdgeioecaa.X
open Go.Proofs.Ytjbmdfdgeioecaa.Am Go.Proofs.Ytjbmdfdgeioecaa.F
set_option linter.unusedVariables false
set_option linter.unusedSimpArgs false
set_option maxRecDepth 100000
set_option maxHeartbeats 1000000
theorem put_ok {op : Int} {l : List E} (hK : ∀ x ∈ l, parts x ≤ 1000000) : ∀ e : E, parts e ≤ 1000000 → RR 45 [e.av, I op, slE l] [] = some (opAV (putE op l e), []) := by
  apply E.ind
  intro e ih hp
  rw [parts_eq] at hp
  have hn : e.args.length ≤ 1000000 := by have := partsL_len e.args; omega
  have hloop := put_loop (op := op) (l := l) (e := e) (fun a ha => ih a ha (by have := partsL_mem ha; omega)) hn e.args 0 []
  simp only [List.nil_append] at hloop
  rw [putE_eq]
  apply put_r
  by_cases hk : e.op = op
  · rw [if_pos hk]
    have hkb : (e.op == op) = true := by simpa using hk
    clear hloop
    by_cases h : e.n < 0
    · rw [if_neg (by omega)]
      simp only [opAV, Option.getD_none, Option.isSome_none, z_av, av_e e]
      simp only [put_b, put_h, put_rs, Try.f45, hkb, h, F.EVT, Am.splice, Am.enterN, Am.freshMem, Am.cA, Am.cB, Am.cK, Am.cL, Am.cS, Am.cT, Am.cE, Am.aresults, Am.aresult, Am.codeKey, Am.frzTop, Am.spliceP, Nat.reduceAdd, Nat.reduceLeDiff, Nat.reduceBEq, Nat.reduceEqDiff, reduceIte, reduceCtorEq, Nat.reduceSub, Int.reduceBEq, Int.reduceSub, Int.reduceAdd, Int.reduceToNat, Int.reduceLT, Int.reduceLE, Int.reduceEq, Int.reduceNeg, Int.reduceBNe, Int.reduceGT, Int.reduceGE, Nat.reduceMul, Nat.reduceMod, Nat.reduceDiv]
      try rfl
    · by_cases h2 : e.n ≥ l.length
      · rw [if_neg (by omega)]
        simp only [opAV, Option.getD_none, Option.isSome_none, z_av, av_e e]
        simp only [put_b, put_h, put_rs, Try.f45, hkb, h, h2, F.EVT, Am.splice, Am.enterN, Am.freshMem, Am.cA, Am.cB, Am.cK, Am.cL, Am.cS, Am.cT, Am.cE, Am.aresults, Am.aresult, Am.codeKey, Am.frzTop, Am.spliceP, Nat.reduceAdd, Nat.reduceLeDiff, Nat.reduceBEq, Nat.reduceEqDiff, reduceIte, reduceCtorEq, Nat.reduceSub, Int.reduceBEq, Int.reduceSub, Int.reduceAdd, Int.reduceToNat, Int.reduceLT, Int.reduceLE, Int.reduceEq, Int.reduceNeg, Int.reduceBNe, Int.reduceGT, Int.reduceGE, Nat.reduceMul, Nat.reduceMod, Nat.reduceDiv]
        try rfl
      · have hlt : e.n.toNat < l.length := by omega
        have hg : l[e.n.toNat]? = some l[e.n.toNat] := List.getElem?_eq_getElem hlt
        have hpx := hK _ (List.getElem_mem hlt)
        rw [if_pos ⟨by omega, by omega⟩, hg]
        generalize l[e.n.toNat] = a at hg hpx
        have hc := clone_ok a hpx
        have hi := index_Eat (by omega) hg
        simp only [opAV, Option.getD_some, Option.isSome_some, av_e e, av_e a] at hc ⊢
        simp only [put_b, put_h, put_rs, Try.f45, hkb, h, h2, hi, hc, F.EVT, Am.splice, Am.enterN, Am.freshMem, Am.cA, Am.cB, Am.cK, Am.cL, Am.cS, Am.cT, Am.cE, Am.aresults, Am.aresult, Am.codeKey, Am.frzTop, Am.spliceP, Nat.reduceAdd, Nat.reduceLeDiff, Nat.reduceBEq, Nat.reduceEqDiff, reduceIte, reduceCtorEq, Nat.reduceSub, Int.reduceBEq, Int.reduceSub, Int.reduceAdd, Int.reduceToNat, Int.reduceLT, Int.reduceLE, Int.reduceEq, Int.reduceNeg, Int.reduceBNe, Int.reduceGT, Int.reduceGE, Nat.reduceMul, Nat.reduceMod, Nat.reduceDiv]
        try rfl
  · rw [if_neg hk]
    have hkb : (e.op == op) = false := beq_no hk
    generalize hr : (some (opAV (match putL op l e.args with | some us => some (E.mk e.op e.n e.s us) | none => none), ([] : List Mem))) = r at hloop ⊢
    simp only [av_e e]
    simp only [put_b, put_h, put_rs, Try.f45, hkb, F.EVT, Am.splice, Am.enterN, Am.freshMem, Am.cA, Am.cB, Am.cK, Am.cL, Am.cS, Am.cT, Am.cE, Am.aresults, Am.aresult, Am.codeKey, Am.frzTop, Am.spliceP, Nat.reduceAdd, Nat.reduceLeDiff, Nat.reduceBEq, Nat.reduceEqDiff, reduceIte, reduceCtorEq, Nat.reduceSub, Int.reduceBEq, Int.reduceSub, Int.reduceAdd, Int.reduceToNat, Int.reduceLT, Int.reduceLE, Int.reduceEq, Int.reduceNeg, Int.reduceBNe, Int.reduceGT, Int.reduceGE, Nat.reduceMul, Nat.reduceMod, Nat.reduceDiv]
    exact hloop _ rfl (Nat.zero_le _) rfl (by kernel_rfl)
abbrev rpuSt (op : Int) (l : List E) (e : E) (es : List E) (i : Int) : St := rput_t7 (I op) (slE l) (.ptr none 3 0) (.ptr none 6 0) (.ptr none 8 0) (I i) [⟨[(3, emem e), (6, zE), (8, outE 65 e es)], [(65, rowT (eps es) 4)]⟩]
theorem rput_loop {op : Int} {l : List E} {e : E} (hl : ∀ a ∈ e.args, RR 47 [a.av, I op, slE l] [] = some (opAV (putE op l a), [])) (hn : e.args.length ≤ 1000000) : ∀ (xs : List E) (i : Nat) (es : List E) (st : St), e.args.drop i = xs → i ≤ e.args.length → es.length = i →
    St.forget (rput_h.at 7) st = rpuSt op l e es i → leaveR PP rput_rs 0 (thenC (blockC 0 (rput_L 7 st)) (acodeX PP RR [] rput_L rput_k7)) = some (opAV (match putL op l xs with | some us => some (.mk e.op e.n e.s (es ++ us)) | none => none), [])
  | [], i, es, st, h, hle, hts, hst => by
    have he : i = e.args.length := by have := drop_nil' h; omega
    subst he
    rw [rput_q7, hst]
    simp only [putL, List.append_nil, opAV, Option.getD_some, Option.isSome_some, av_mk]
    rw [rput_e7]; simp only [rput_k7, rput_l7, rput_b, rput_rs, Try.f47, Int.lt_irrefl, F.EVT, Am.splice, Am.enterN, Am.freshMem, Am.cA, Am.cB, Am.cK, Am.cL, Am.cS, Am.cT, Am.cE, Am.aresults, Am.aresult, Am.codeKey, Am.frzTop, Am.spliceP, Nat.reduceAdd, Nat.reduceLeDiff, Nat.reduceBEq, Nat.reduceEqDiff, reduceIte, reduceCtorEq, Nat.reduceSub, Int.reduceBEq, Int.reduceSub, Int.reduceAdd, Int.reduceToNat, Int.reduceLT, Int.reduceLE, Int.reduceEq, Int.reduceNeg, Int.reduceBNe, Int.reduceGT, Int.reduceGE, Nat.reduceMul, Nat.reduceMod, Nat.reduceDiv]
    try rfl
  | x :: xs, i, es, st, h, hle, hts, hst => by
    obtain ⟨hlt, hi, hd⟩ := drop_cons h
    have hlt' : (i : Int) < e.args.length := by omega
    have hx := hl x (List.mem_of_getElem? hi)
    rw [rput_q7, hst]
    cases hu : putE op l x with
    | none =>
      rw [hu] at hx
      simp only [opAV, Option.getD_none, Option.isSome_none, z_av] at hx
      simp only [E.av] at hx
      simp only [putL, hu, opAV, Option.getD_none, Option.isSome_none, z_av]
      rw [rput_e7]; simp only [rput_l7, rput_b, rput_rs, Try.f47, index_E hi, hlt', hx, F.EVT, Am.splice, Am.enterN, Am.freshMem, Am.cA, Am.cB, Am.cK, Am.cL, Am.cS, Am.cT, Am.cE, Am.aresults, Am.aresult, Am.codeKey, Am.frzTop, Am.spliceP, Nat.reduceAdd, Nat.reduceLeDiff, Nat.reduceBEq, Nat.reduceEqDiff, reduceIte, reduceCtorEq, Nat.reduceSub, Int.reduceBEq, Int.reduceSub, Int.reduceAdd, Int.reduceToNat, Int.reduceLT, Int.reduceLE, Int.reduceEq, Int.reduceNeg, Int.reduceBNe, Int.reduceGT, Int.reduceGE, Nat.reduceMul, Nat.reduceMod, Nat.reduceDiv]
      try rfl
    | some u =>
      rw [hu] at hx
      simp only [E.av, opAV, Option.getD_some, Option.isSome_some] at hx
      have hb : ((eps es).length + 1) * 56 ≤ 140737488355328 := by rw [eps_len]; omega
      have hap := eps_snoc es u
      have hg : (match putL op l (x :: xs) with | some us => some (E.mk e.op e.n e.s (es ++ us)) | none => none) = (match putL op l xs with | some us => some (E.mk e.op e.n e.s ((es ++ [u]) ++ us)) | none => none) := by
        simp only [putL, hu]
        cases putL op l xs <;> simp
      rw [hg]
      generalize hr : (some (opAV (match putL op l xs with | some us => some (E.mk e.op e.n e.s ((es ++ [u]) ++ us)) | none => none), ([] : List Mem))) = r
      rw [rput_e7]; simp only [rput_l7, rput_b, rput_rs, Try.f47, index_E hi, hlt', hx, hb, hap, wrapS hlt (show e.args.length ≤ LIM by simp only [LIM]; omega), F.EVT, Am.splice, Am.enterN, Am.freshMem, Am.cA, Am.cB, Am.cK, Am.cL, Am.cS, Am.cT, Am.cE, Am.aresults, Am.aresult, Am.codeKey, Am.frzTop, Am.spliceP, Nat.reduceAdd, Nat.reduceLeDiff, Nat.reduceBEq, Nat.reduceEqDiff, reduceIte, reduceCtorEq, Nat.reduceSub, Int.reduceBEq, Int.reduceSub, Int.reduceAdd, Int.reduceToNat, Int.reduceLT, Int.reduceLE, Int.reduceEq, Int.reduceNeg, Int.reduceBNe, Int.reduceGT, Int.reduceGE, Nat.reduceMul, Nat.reduceMod, Nat.reduceDiv]
      rw [← hr]
      exact rput_loop hl hn xs (i + 1) (es ++ [u]) _ hd hlt (by simp [hts]) (by delta rpuSt outE; generalize eps (es ++ [u]) = E; cases E <;> kernel_rfl)
theorem rput_ok {op : Int} {l : List E} (hK : ∀ x ∈ l, parts x ≤ 1000000) : ∀ e : E, parts e ≤ 1000000 → RR 47 [e.av, I op, slE l] [] = some (opAV (putE op l e), []) := by
  apply E.ind
  intro e ih hp
  rw [parts_eq] at hp
  have hn : e.args.length ≤ 1000000 := by have := partsL_len e.args; omega
  have hloop := rput_loop (op := op) (l := l) (e := e) (fun a ha => ih a ha (by have := partsL_mem ha; omega)) hn e.args 0 []
  simp only [List.nil_append] at hloop
  rw [putE_eq]
  apply rput_r
  by_cases hk : e.op = op
  · rw [if_pos hk]
    have hkb : (e.op == op) = true := by simpa using hk
    clear hloop
    by_cases h : e.n < 0
    · rw [if_neg (by omega)]
      simp only [opAV, Option.getD_none, Option.isSome_none, z_av, av_e e]
      simp only [rput_b, rput_h, rput_rs, Try.f47, hkb, h, F.EVT, Am.splice, Am.enterN, Am.freshMem, Am.cA, Am.cB, Am.cK, Am.cL, Am.cS, Am.cT, Am.cE, Am.aresults, Am.aresult, Am.codeKey, Am.frzTop, Am.spliceP, Nat.reduceAdd, Nat.reduceLeDiff, Nat.reduceBEq, Nat.reduceEqDiff, reduceIte, reduceCtorEq, Nat.reduceSub, Int.reduceBEq, Int.reduceSub, Int.reduceAdd, Int.reduceToNat, Int.reduceLT, Int.reduceLE, Int.reduceEq, Int.reduceNeg, Int.reduceBNe, Int.reduceGT, Int.reduceGE, Nat.reduceMul, Nat.reduceMod, Nat.reduceDiv]
      try rfl
    · by_cases h2 : e.n ≥ l.length
      · rw [if_neg (by omega)]
        simp only [opAV, Option.getD_none, Option.isSome_none, z_av, av_e e]
        simp only [rput_b, rput_h, rput_rs, Try.f47, hkb, h, h2, F.EVT, Am.splice, Am.enterN, Am.freshMem, Am.cA, Am.cB, Am.cK, Am.cL, Am.cS, Am.cT, Am.cE, Am.aresults, Am.aresult, Am.codeKey, Am.frzTop, Am.spliceP, Nat.reduceAdd, Nat.reduceLeDiff, Nat.reduceBEq, Nat.reduceEqDiff, reduceIte, reduceCtorEq, Nat.reduceSub, Int.reduceBEq, Int.reduceSub, Int.reduceAdd, Int.reduceToNat, Int.reduceLT, Int.reduceLE, Int.reduceEq, Int.reduceNeg, Int.reduceBNe, Int.reduceGT, Int.reduceGE, Nat.reduceMul, Nat.reduceMod, Nat.reduceDiv]
        try rfl
      · have hlt : e.n.toNat < l.length := by omega
        have hg : l[e.n.toNat]? = some l[e.n.toNat] := List.getElem?_eq_getElem hlt
        have hpx := hK _ (List.getElem_mem hlt)
        rw [if_pos ⟨by omega, by omega⟩, hg]
        generalize l[e.n.toNat] = a at hg hpx
        have hc := rClone_ok a hpx
        have hi := index_Eat (by omega) hg
        simp only [opAV, Option.getD_some, Option.isSome_some, av_e e, av_e a] at hc ⊢
        simp only [rput_b, rput_h, rput_rs, Try.f47, hkb, h, h2, hi, hc, F.EVT, Am.splice, Am.enterN, Am.freshMem, Am.cA, Am.cB, Am.cK, Am.cL, Am.cS, Am.cT, Am.cE, Am.aresults, Am.aresult, Am.codeKey, Am.frzTop, Am.spliceP, Nat.reduceAdd, Nat.reduceLeDiff, Nat.reduceBEq, Nat.reduceEqDiff, reduceIte, reduceCtorEq, Nat.reduceSub, Int.reduceBEq, Int.reduceSub, Int.reduceAdd, Int.reduceToNat, Int.reduceLT, Int.reduceLE, Int.reduceEq, Int.reduceNeg, Int.reduceBNe, Int.reduceGT, Int.reduceGE, Nat.reduceMul, Nat.reduceMod, Nat.reduceDiv]
        try rfl
  · rw [if_neg hk]
    have hkb : (e.op == op) = false := beq_no hk
    generalize hr : (some (opAV (match putL op l e.args with | some us => some (E.mk e.op e.n e.s us) | none => none), ([] : List Mem))) = r at hloop ⊢
    simp only [av_e e]
    simp only [rput_b, rput_h, rput_rs, Try.f47, hkb, F.EVT, Am.splice, Am.enterN, Am.freshMem, Am.cA, Am.cB, Am.cK, Am.cL, Am.cS, Am.cT, Am.cE, Am.aresults, Am.aresult, Am.codeKey, Am.frzTop, Am.spliceP, Nat.reduceAdd, Nat.reduceLeDiff, Nat.reduceBEq, Nat.reduceEqDiff, reduceIte, reduceCtorEq, Nat.reduceSub, Int.reduceBEq, Int.reduceSub, Int.reduceAdd, Int.reduceToNat, Int.reduceLT, Int.reduceLE, Int.reduceEq, Int.reduceNeg, Int.reduceBNe, Int.reduceGT, Int.reduceGE, Nat.reduceMul, Nat.reduceMod, Nat.reduceDiv]
    exact hloop _ rfl (Nat.zero_le _) rfl (by kernel_rfl)
mutual
theorem putE_parts {op : Int} {l : List E} {K : Nat} (h1 : 1 ≤ K) (hK : ∀ x ∈ l, parts x ≤ K) : ∀ (e x : E), putE op l e = some x → parts x ≤ parts e * K
  | .mk o n s args, x, h => by
    simp only [putE] at h
    have hpp : 1 ≤ parts (.mk o n s args) := parts_pos _
    by_cases ho : o = op
    · rw [if_pos ho] at h
      by_cases hn : 0 ≤ n ∧ n < l.length
      · rw [if_pos hn] at h
        have := hK x (List.mem_of_getElem? h)
        exact Nat.le_trans this (Nat.le_mul_of_pos_left K hpp)
      · rw [if_neg hn] at h; cases h
    · rw [if_neg ho] at h
      cases hl : putL op l args with
      | none => rw [hl] at h; cases h
      | some us =>
        rw [hl] at h
        simp only [Option.some.injEq] at h
        subst h
        have := putL_parts h1 hK args us hl
        simp only [parts, Nat.add_mul]
        omega
theorem putL_parts {op : Int} {l : List E} {K : Nat} (h1 : 1 ≤ K) (hK : ∀ x ∈ l, parts x ≤ K) : ∀ (es us : List E), putL op l es = some us → partsL us ≤ partsL es * K
  | [], us, h => by simp only [putL, Option.some.injEq] at h; subst h; simp [partsL]
  | a :: es, us, h => by
    simp only [putL] at h
    cases ha : putE op l a with
    | none => rw [ha] at h; cases h
    | some u =>
      rw [ha] at h
      simp only at h
      cases hl : putL op l es with
      | none => rw [hl] at h; cases h
      | some ws =>
        rw [hl] at h
        simp only [Option.some.injEq] at h
        subst h
        have h2 := putE_parts h1 hK a u ha
        have h3 := putL_parts h1 hK es ws hl
        simp only [partsL, Nat.add_mul]
        omega
end
def replE (e : E) (l : List E) : Option E := match putE 3 l e with | some x => if levels x > 12 then none else some x | none => none
theorem xReplace_ok {e : E} {l : List E} {K : Nat} (h1 : 1 ≤ K) (hK : ∀ x ∈ l, parts x ≤ K) (hp : parts e * K ≤ 1000000) : RR 19 [e.av, slE l] [] = some (opAV (replE e l), []) := by
  have hKK : K ≤ 1000000 := Nat.le_trans (Nat.le_mul_of_pos_left K (parts_pos e)) hp
  have hpe : parts e ≤ 1000000 := Nat.le_trans (Nat.le_mul_of_pos_right _ h1) hp
  have hx := put_ok (op := 3) (fun x hx => Nat.le_trans (hK x hx) hKK) e hpe
  unfold replE
  apply xReplace_r
  cases hq : putE 3 l e with
  | none =>
    rw [hq] at hx
    simp only [opAV, Option.getD_none, Option.isSome_none, z_av, av_e e] at hx ⊢
    simp only [xReplace_b, xReplace_h, xReplace_rs, Try.f19, hx, F.EVT, Am.splice, Am.enterN, Am.freshMem, Am.cA, Am.cB, Am.cK, Am.cL, Am.cS, Am.cT, Am.cE, Am.aresults, Am.aresult, Am.codeKey, Am.frzTop, Am.spliceP, Nat.reduceAdd, Nat.reduceLeDiff, Nat.reduceBEq, Nat.reduceEqDiff, reduceIte, reduceCtorEq, Nat.reduceSub, Int.reduceBEq, Int.reduceSub, Int.reduceAdd, Int.reduceToNat, Int.reduceLT, Int.reduceLE, Int.reduceEq, Int.reduceNeg, Int.reduceBNe, Int.reduceGT, Int.reduceGE, Nat.reduceMul, Nat.reduceMod, Nat.reduceDiv]
    try rfl
  | some u =>
    rw [hq] at hx
    have hu := putE_parts h1 hK e u hq
    have hlv := levels_ok u (by omega)
    simp only
    by_cases hl : levels u > 12
    · have hl' : (levels u : Int) > 12 := by omega
      rw [if_pos hl]
      simp only [opAV, Option.getD_none, Option.getD_some, Option.isSome_some, Option.isSome_none, z_av, av_e e, av_e u] at hx hlv ⊢
      simp only [xReplace_b, xReplace_h, xReplace_rs, Try.f19, hx, hlv, hl', F.EVT, Am.splice, Am.enterN, Am.freshMem, Am.cA, Am.cB, Am.cK, Am.cL, Am.cS, Am.cT, Am.cE, Am.aresults, Am.aresult, Am.codeKey, Am.frzTop, Am.spliceP, Nat.reduceAdd, Nat.reduceLeDiff, Nat.reduceBEq, Nat.reduceEqDiff, reduceIte, reduceCtorEq, Nat.reduceSub, Int.reduceBEq, Int.reduceSub, Int.reduceAdd, Int.reduceToNat, Int.reduceLT, Int.reduceLE, Int.reduceEq, Int.reduceNeg, Int.reduceBNe, Int.reduceGT, Int.reduceGE, Nat.reduceMul, Nat.reduceMod, Nat.reduceDiv]
      try rfl
    · have hl' : ¬ (levels u : Int) > 12 := by omega
      rw [if_neg hl]
      simp only [opAV, Option.getD_some, Option.isSome_some, av_e e, av_e u] at hx hlv ⊢
      simp only [xReplace_b, xReplace_h, xReplace_rs, Try.f19, hx, hlv, hl', F.EVT, Am.splice, Am.enterN, Am.freshMem, Am.cA, Am.cB, Am.cK, Am.cL, Am.cS, Am.cT, Am.cE, Am.aresults, Am.aresult, Am.codeKey, Am.frzTop, Am.spliceP, Nat.reduceAdd, Nat.reduceLeDiff, Nat.reduceBEq, Nat.reduceEqDiff, reduceIte, reduceCtorEq, Nat.reduceSub, Int.reduceBEq, Int.reduceSub, Int.reduceAdd, Int.reduceToNat, Int.reduceLT, Int.reduceLE, Int.reduceEq, Int.reduceNeg, Int.reduceBNe, Int.reduceGT, Int.reduceGE, Nat.reduceMul, Nat.reduceMod, Nat.reduceDiv]
      try rfl
theorem rReplace_ok {e : E} {l : List E} {K : Nat} (h1 : 1 ≤ K) (hK : ∀ x ∈ l, parts x ≤ K) (hp : parts e * K ≤ 1000000) : RR 20 [e.av, slE l] [] = some (opAV (replE e l), []) := by
  have hKK : K ≤ 1000000 := Nat.le_trans (Nat.le_mul_of_pos_left K (parts_pos e)) hp
  have hpe : parts e ≤ 1000000 := Nat.le_trans (Nat.le_mul_of_pos_right _ h1) hp
  have hx := rput_ok (op := 3) (fun x hx => Nat.le_trans (hK x hx) hKK) e hpe
  unfold replE
  apply rReplace_r
  cases hq : putE 3 l e with
  | none =>
    rw [hq] at hx
    simp only [opAV, Option.getD_none, Option.isSome_none, z_av, av_e e] at hx ⊢
    simp only [rReplace_b, rReplace_h, rReplace_rs, Try.f20, hx, F.EVT, Am.splice, Am.enterN, Am.freshMem, Am.cA, Am.cB, Am.cK, Am.cL, Am.cS, Am.cT, Am.cE, Am.aresults, Am.aresult, Am.codeKey, Am.frzTop, Am.spliceP, Nat.reduceAdd, Nat.reduceLeDiff, Nat.reduceBEq, Nat.reduceEqDiff, reduceIte, reduceCtorEq, Nat.reduceSub, Int.reduceBEq, Int.reduceSub, Int.reduceAdd, Int.reduceToNat, Int.reduceLT, Int.reduceLE, Int.reduceEq, Int.reduceNeg, Int.reduceBNe, Int.reduceGT, Int.reduceGE, Nat.reduceMul, Nat.reduceMod, Nat.reduceDiv]
    try rfl
  | some u =>
    rw [hq] at hx
    have hu := putE_parts h1 hK e u hq
    have hlv := rLevels_ok u (by omega)
    simp only
    by_cases hl : levels u > 12
    · have hl' : (levels u : Int) > 12 := by omega
      rw [if_pos hl]
      simp only [opAV, Option.getD_none, Option.getD_some, Option.isSome_some, Option.isSome_none, z_av, av_e e, av_e u] at hx hlv ⊢
      simp only [rReplace_b, rReplace_h, rReplace_rs, Try.f20, hx, hlv, hl', F.EVT, Am.splice, Am.enterN, Am.freshMem, Am.cA, Am.cB, Am.cK, Am.cL, Am.cS, Am.cT, Am.cE, Am.aresults, Am.aresult, Am.codeKey, Am.frzTop, Am.spliceP, Nat.reduceAdd, Nat.reduceLeDiff, Nat.reduceBEq, Nat.reduceEqDiff, reduceIte, reduceCtorEq, Nat.reduceSub, Int.reduceBEq, Int.reduceSub, Int.reduceAdd, Int.reduceToNat, Int.reduceLT, Int.reduceLE, Int.reduceEq, Int.reduceNeg, Int.reduceBNe, Int.reduceGT, Int.reduceGE, Nat.reduceMul, Nat.reduceMod, Nat.reduceDiv]
      try rfl
    · have hl' : ¬ (levels u : Int) > 12 := by omega
      rw [if_neg hl]
      simp only [opAV, Option.getD_some, Option.isSome_some, av_e e, av_e u] at hx hlv ⊢
      simp only [rReplace_b, rReplace_h, rReplace_rs, Try.f20, hx, hlv, hl', F.EVT, Am.splice, Am.enterN, Am.freshMem, Am.cA, Am.cB, Am.cK, Am.cL, Am.cS, Am.cT, Am.cE, Am.aresults, Am.aresult, Am.codeKey, Am.frzTop, Am.spliceP, Nat.reduceAdd, Nat.reduceLeDiff, Nat.reduceBEq, Nat.reduceEqDiff, reduceIte, reduceCtorEq, Nat.reduceSub, Int.reduceBEq, Int.reduceSub, Int.reduceAdd, Int.reduceToNat, Int.reduceLT, Int.reduceLE, Int.reduceEq, Int.reduceNeg, Int.reduceBNe, Int.reduceGT, Int.reduceGE, Nat.reduceMul, Nat.reduceMod, Nat.reduceDiv]
      try rfl
end Go.Proofs.Ytjbmdfdgeioecaa.X
