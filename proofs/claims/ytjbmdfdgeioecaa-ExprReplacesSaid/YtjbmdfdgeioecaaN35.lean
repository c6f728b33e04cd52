/- Replacing columns, or parameters, by expressions. -/
import Derived.Test.YtjbmdfdgeioecaaN34
namespace Go.Proofs.Ytjbmdfdgeioecaa.X
open Go.Proofs.Ytjbmdfdgeioecaa.Am Go.Proofs.Ytjbmdfdgeioecaa.F
set_option linter.unusedVariables false
set_option linter.unusedSimpArgs false
set_option maxRecDepth 100000
set_option maxHeartbeats 1000000
abbrev rclSt (e : E) (es : List E) (i : Int) : St := rClone_t3 (.ptr none 1 0) (.ptr none 2 0) (.ptr none 3 0) (I i) [⟨[(1, emem e), (2, zE), (3, outE 28 e es)], [(28, rowT (eps es) 4)]⟩]
theorem rClone_loop {e : E} (hl : ∀ a ∈ e.args, RR 84 [a.av] [] = some (a.av, [])) (hn : e.args.length ≤ 1000000) : ∀ (xs : List E) (i : Nat) (es : List E) (st : St), e.args.drop i = xs → i ≤ e.args.length → es.length = i → es ++ xs = e.args →
    St.forget (rClone_h.at 3) st = rclSt e es i → leaveR PP rClone_rs 0 (thenC (blockC 0 (rClone_L 3 st)) (acodeX PP RR [] rClone_L rClone_k3)) = some (e.av, [])
  | [], i, es, st, h, hle, hts, hk, hst => by
    have he : i = e.args.length := by have := drop_nil' h; omega
    subst he
    rw [List.append_nil] at hk
    subst hk
    rw [rClone_q3, hst]
    simp only [E.av]
    rw [rClone_e3]; simp only [rClone_k3, rClone_l3, rClone_b, rClone_rs, Try.f84, Int.lt_irrefl, F.EVT, Am.splice, Am.enterN, Am.freshMem, Am.cA, Am.cB, Am.cK, Am.cL, Am.cS, Am.cT, Am.cE, Am.aresults, Am.aresult, Am.codeKey, Am.frzTop, Am.spliceP, Nat.reduceAdd, Nat.reduceLeDiff, Nat.reduceBEq, Nat.reduceEqDiff, reduceIte, reduceCtorEq, Nat.reduceSub, Int.reduceBEq, Int.reduceSub, Int.reduceAdd, Int.reduceToNat, Int.reduceLT, Int.reduceLE, Int.reduceEq, Int.reduceNeg, Int.reduceBNe, Int.reduceGT, Int.reduceGE, Nat.reduceMul, Nat.reduceMod, Nat.reduceDiv]
    try rfl
  | x :: xs, i, es, st, h, hle, hts, hk, hst => by
    obtain ⟨hlt, hi, hd⟩ := drop_cons h
    have hlt' : (i : Int) < e.args.length := by omega
    have hx := hl x (List.mem_of_getElem? hi)
    simp only [E.av] at hx
    have hb : ((eps es).length + 1) * 56 ≤ 140737488355328 := by rw [eps_len]; omega
    have hap := eps_snoc es x
    rw [rClone_q3, hst]
    rw [rClone_e3]; simp only [rClone_l3, rClone_b, rClone_rs, Try.f84, index_E hi, hlt', hx, hb, hap, wrapS hlt (show e.args.length ≤ LIM by simp only [LIM]; omega), F.EVT, Am.splice, Am.enterN, Am.freshMem, Am.cA, Am.cB, Am.cK, Am.cL, Am.cS, Am.cT, Am.cE, Am.aresults, Am.aresult, Am.codeKey, Am.frzTop, Am.spliceP, Nat.reduceAdd, Nat.reduceLeDiff, Nat.reduceBEq, Nat.reduceEqDiff, reduceIte, reduceCtorEq, Nat.reduceSub, Int.reduceBEq, Int.reduceSub, Int.reduceAdd, Int.reduceToNat, Int.reduceLT, Int.reduceLE, Int.reduceEq, Int.reduceNeg, Int.reduceBNe, Int.reduceGT, Int.reduceGE, Nat.reduceMul, Nat.reduceMod, Nat.reduceDiv]
    exact rClone_loop hl hn xs (i + 1) (es ++ [x]) _ hd hlt (by simp [hts]) (by rw [← hk]; simp) (by delta rclSt outE; generalize eps (es ++ [x]) = E; cases E <;> kernel_rfl)
theorem rClone_ok : ∀ (e : E), parts e ≤ 1000000 → RR 84 [e.av] [] = some (e.av, []) := by
  apply E.ind
  intro e ih hp
  rw [parts_eq] at hp
  have hn : e.args.length ≤ 1000000 := by have := partsL_len e.args; omega
  have hloop := rClone_loop (e := e) (fun a ha => ih a ha (by have := partsL_mem ha; omega)) hn e.args 0 []
  apply rClone_r
  generalize hr : some (e.av, ([] : List Mem)) = r at hloop ⊢
  simp only [rClone_b, rClone_h, rClone_rs, Try.f84, E.av, F.EVT, Am.splice, Am.enterN, Am.freshMem, Am.cA, Am.cB, Am.cK, Am.cL, Am.cS, Am.cT, Am.cE, Am.aresults, Am.aresult, Am.codeKey, Am.frzTop, Am.spliceP, Nat.reduceAdd, Nat.reduceLeDiff, Nat.reduceBEq, Nat.reduceEqDiff, reduceIte, reduceCtorEq, Nat.reduceSub, Int.reduceBEq, Int.reduceSub, Int.reduceAdd, Int.reduceToNat, Int.reduceLT, Int.reduceLE, Int.reduceEq, Int.reduceNeg, Int.reduceBNe, Int.reduceGT, Int.reduceGE, Nat.reduceMul, Nat.reduceMod, Nat.reduceDiv]
  exact hloop _ rfl (Nat.zero_le _) rfl rfl (by kernel_rfl)
mutual
def putE (op : Int) (l : List E) : E → Option E
  | .mk o n s args => if o = op then (if 0 ≤ n ∧ n < l.length then l[n.toNat]? else none) else match putL op l args with | some us => some (.mk o n s us) | none => none
def putL (op : Int) (l : List E) : List E → Option (List E)
  | [] => some []
  | a :: es => match putE op l a with
    | some u => match putL op l es with | some us => some (u :: us) | none => none
    | none => none
end
theorem putE_eq (op : Int) (l : List E) (e : E) : putE op l e = if e.op = op then (if 0 ≤ e.n ∧ e.n < l.length then l[e.n.toNat]? else none) else match putL op l e.args with | some us => some (.mk e.op e.n e.s us) | none => none := by cases e; simp only [putE, E.args, E.op, E.n, E.s]; rfl
/-- An expression, or not, as a pair. -/
def opAV (o : Option E) : AV := .tup [(o.getD E.z).av, B o.isSome]
theorem index_Eat {l : List E} {n : Int} {a : E} (h0 : 0 ≤ n) (h : l[n.toNat]? = some a) : indexC 4 (slE l) n = some (.eptr [.int .i64 a.op, .int .i64 a.n, .str a.s, .slc (a.args.map E.pv)]) := by
  have := index_E h
  rwa [Int.toNat_of_nonneg h0] at this
theorem av_mk (o n : Int) (s : ByteArray) (es : List E) : (E.mk o n s es).av = .agg [.pv (.int .i64 o), .pv (.int .i64 n), .pv (.str s), .pv (.slc (es.map E.pv))] := rfl
theorem z_av : (E.av E.z) = .agg [.pv (.int .i64 0), .pv (.int .i64 0), .pv (.str ByteArray.empty), .pv (.slc [])] := rfl
abbrev puSt (op : Int) (l : List E) (e : E) (es : List E) (i : Int) : St := put_t7 (I op) (slE l) (.ptr none 6 0) (.ptr none 8 0) (slE e.args) (I e.args.length) (I i) [⟨[(6, zE), (8, outE 62 e es)], [(62, rowT (eps es) 4)]⟩]
theorem put_loop {op : Int} {l : List E} {e : E} (hl : ∀ a ∈ e.args, RR 45 [a.av, I op, slE l] [] = some (opAV (putE op l a), [])) (hn : e.args.length ≤ 1000000) : ∀ (xs : List E) (i : Nat) (es : List E) (st : St), e.args.drop i = xs → i ≤ e.args.length → es.length = i →
    St.forget (put_h.at 7) st = puSt op l e es i → leaveR PP put_rs 0 (thenC (blockC 0 (put_L 7 st)) (acodeX PP RR [] put_L put_k7)) = some (opAV (match putL op l xs with | some us => some (.mk e.op e.n e.s (es ++ us)) | none => none), [])
  | [], i, es, st, h, hle, hts, hst => by
    have he : i = e.args.length := by have := drop_nil' h; omega
    subst he
    rw [put_q7, hst]
    simp only [putL, List.append_nil, opAV, Option.getD_some, Option.isSome_some, av_mk]
    rw [put_e7]; simp only [put_k7, put_l7, put_b, put_rs, Try.f45, Int.lt_irrefl, F.EVT, Am.splice, Am.enterN, Am.freshMem, Am.cA, Am.cB, Am.cK, Am.cL, Am.cS, Am.cT, Am.cE, Am.aresults, Am.aresult, Am.codeKey, Am.frzTop, Am.spliceP, Nat.reduceAdd, Nat.reduceLeDiff, Nat.reduceBEq, Nat.reduceEqDiff, reduceIte, reduceCtorEq, Nat.reduceSub, Int.reduceBEq, Int.reduceSub, Int.reduceAdd, Int.reduceToNat, Int.reduceLT, Int.reduceLE, Int.reduceEq, Int.reduceNeg, Int.reduceBNe, Int.reduceGT, Int.reduceGE, Nat.reduceMul, Nat.reduceMod, Nat.reduceDiv]
    try rfl
  | x :: xs, i, es, st, h, hle, hts, hst => by
    obtain ⟨hlt, hi, hd⟩ := drop_cons h
    have hlt' : (i : Int) < e.args.length := by omega
    have hx := hl x (List.mem_of_getElem? hi)
    rw [put_q7, hst]
    cases hu : putE op l x with
    | none =>
      rw [hu] at hx
      simp only [opAV, Option.getD_none, Option.isSome_none, z_av] at hx
      simp only [E.av] at hx
      simp only [putL, hu, opAV, Option.getD_none, Option.isSome_none, z_av]
      rw [put_e7]; simp only [put_l7, put_b, put_rs, Try.f45, index_E hi, hlt', hx, F.EVT, Am.splice, Am.enterN, Am.freshMem, Am.cA, Am.cB, Am.cK, Am.cL, Am.cS, Am.cT, Am.cE, Am.aresults, Am.aresult, Am.codeKey, Am.frzTop, Am.spliceP, Nat.reduceAdd, Nat.reduceLeDiff, Nat.reduceBEq, Nat.reduceEqDiff, reduceIte, reduceCtorEq, Nat.reduceSub, Int.reduceBEq, Int.reduceSub, Int.reduceAdd, Int.reduceToNat, Int.reduceLT, Int.reduceLE, Int.reduceEq, Int.reduceNeg, Int.reduceBNe, Int.reduceGT, Int.reduceGE, Nat.reduceMul, Nat.reduceMod, Nat.reduceDiv]
      try rfl
    | some u =>
      rw [hu] at hx
      simp only [E.av, opAV, Option.getD_some, Option.isSome_some] at hx
      have hb : ((eps es).length + 1) * 56 ≤ 140737488355328 := by rw [eps_len]; omega
      have hap := eps_snoc es u
      have hg : (match putL op l (x :: xs) with | some us => some (E.mk e.op e.n e.s (es ++ us)) | none => none) = (match putL op l xs with | some us => some (E.mk e.op e.n e.s ((es ++ [u]) ++ us)) | none => none) := by
        simp only [putL, hu]
        cases putL op l xs <;> simp
      rw [hg]
      generalize hr : (some (opAV (match putL op l xs with | some us => some (E.mk e.op e.n e.s ((es ++ [u]) ++ us)) | none => none), ([] : List Mem))) = r
      rw [put_e7]; simp only [put_l7, put_b, put_rs, Try.f45, index_E hi, hlt', hx, hb, hap, wrapS hlt (show e.args.length ≤ LIM by simp only [LIM]; omega), F.EVT, Am.splice, Am.enterN, Am.freshMem, Am.cA, Am.cB, Am.cK, Am.cL, Am.cS, Am.cT, Am.cE, Am.aresults, Am.aresult, Am.codeKey, Am.frzTop, Am.spliceP, Nat.reduceAdd, Nat.reduceLeDiff, Nat.reduceBEq, Nat.reduceEqDiff, reduceIte, reduceCtorEq, Nat.reduceSub, Int.reduceBEq, Int.reduceSub, Int.reduceAdd, Int.reduceToNat, Int.reduceLT, Int.reduceLE, Int.reduceEq, Int.reduceNeg, Int.reduceBNe, Int.reduceGT, Int.reduceGE, Nat.reduceMul, Nat.reduceMod, Nat.reduceDiv]
      rw [← hr]
      exact put_loop hl hn xs (i + 1) (es ++ [u]) _ hd hlt (by simp [hts]) (by delta puSt outE; generalize eps (es ++ [u]) = E; cases E <;> kernel_rfl)
end Go.Proofs.Ytjbmdfdgeioecaa.X
