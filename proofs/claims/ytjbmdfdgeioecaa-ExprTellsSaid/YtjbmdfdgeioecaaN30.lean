/- Evaluation with counting, by the answer of the document. -/
import Derived.Test.YtjbmdfdgeioecaaN29
namespace Go.Proofs.Ytjbmdfdgeioecaa.X
open Go.Proofs.Ytjbmdfdgeioecaa.Am Go.Proofs.Ytjbmdfdgeioecaa.F
set_option linter.unusedVariables false
set_option linter.unusedSimpArgs false
set_option maxRecDepth 100000
set_option maxHeartbeats 1000000
def cv (v : V) (n : Int) : AV := .agg [.pv (.int .i64 v.kind), .pv (.int .i64 v.n), .pv (.str v.s), .pv (.int .i64 n)]
theorem ld40 (st : St) (s off : Nat) : aload PP st 40 (.ptr none s off) = (okC (varAt st.mems st.d s)).bind fun cs => if off + 4 ≤ cs.length then some (.agg ((cs.drop off).take 4)) else none := by kernel_rfl
def sumI : List Int → Int
  | [] => 0
  | x :: l => x + sumI l
abbrev rrM (e : E) (l : List V) : Mem := ⟨[(6, emem e), (10, [I 0, I 0, .pv (.str ByteArray.empty), I 0])], [(75, rowT (vs l) 3)]⟩
abbrev rrSt (fs : List Fn) (time : Int) (row ps : List V) (e : E) (l : List V) (n i : Int) : St := rRun_t11 (slF fs) (I time) (slV row) (slV ps) (.ptr none 6 0) (.ptr none 10 0) (I n) (mkOwn 75 (vs l)) (I i) [rrM e l]
def RrGoal (fs : List Fn) (time : Int) (row ps : List V) (e : E) (l : List V) (n : Int) (r : AV) : Prop :=
  leaveR PP rRun_rs 0 (thenC (blockC 0 (rRun_X11 (rrSt fs time row ps e l n e.args.length))) (acodeX PP RR rRun_L rRun_k11)) = some (r, [])
theorem rr_loop {fs : List Fn} {time : Int} {row ps : List V} {e : E} {r : AV} {g : E → V} {c : E → Int} (hl : ∀ a ∈ e.args, RR 16 [slF fs, a.av, I time, slV row, slV ps] [] = some (cv (g a) (c a), [])) (hc : ∀ a ∈ e.args, 0 ≤ c a ∧ c a ≤ 10000) (hn : e.args.length ≤ 1000000)
    (hend : RrGoal fs time row ps e (e.args.map g) (1 + sumI (e.args.map c)) r) : ∀ (xs : List E) (i : Nat) (l : List V) (n : Int) (st : St), e.args.drop i = xs → i ≤ e.args.length → l.length = i → l ++ xs.map g = e.args.map g → n + sumI (xs.map c) = 1 + sumI (e.args.map c) → 0 ≤ n ∧ n ≤ 1 + 10000 * (i : Int) →
    St.forget (rRun_h.at 11) st = rrSt fs time row ps e l n i → leaveR PP rRun_rs 0 (thenC (blockC 0 (rRun_L 11 st)) (acodeX PP RR rRun_L rRun_k11)) = some (r, [])
  | [], i, l, n, st, h, hle, hts, hk, hs, hb, hst => by
    have he : i = e.args.length := by have := drop_nil' h; omega
    subst he
    rw [rRun_q11, hst]
    rw [List.map_nil, List.append_nil] at hk
    have hn' : n = 1 + sumI (e.args.map c) := by simp only [List.map_nil, sumI] at hs; omega
    rw [hk, hn']
    exact hend
  | x :: xs, i, l, n, st, h, hle, hts, hk, hs, hbn, hst => by
    obtain ⟨hlt, hi, hd⟩ := drop_cons h
    have hlt' : (i : Int) < e.args.length := by omega
    have hmem := List.mem_of_getElem? hi
    have ht := hl x hmem
    have hcx := hc x hmem
    simp only [E.av, cv] at ht
    have hb : ((vs l).length + 1) * 32 ≤ 140737488355328 := by simp only [vs, List.length_map]; omega
    have hap : vs l ++ [.agg [.int .i64 (g x).kind, .int .i64 (g x).n, .str (g x).s]] = vs (l ++ [g x]) := by simp [vs, V.pv]
    have hw : IntKind.i64.wrap (n + c x) = n + c x := wrap_ok (by omega) (by omega)
    rw [rRun_q11, hst]
    rw [rRun_e11]; simp only [rRun_l11, rRun_b, rRun_rs, Try.f16, index_E hi, hlt', ht, hb, hap, hw, wrapS hlt (show e.args.length ≤ LIM by simp only [LIM]; omega), F.EVT, Am.splice, Am.enterN, Am.freshMem, Am.cA, Am.cB, Am.cK, Am.cL, Am.cS, Am.cT, Am.cE, Am.aresults, Am.aresult, Am.codeKey, Nat.reduceAdd, Nat.reduceLeDiff, Nat.reduceBEq, Nat.reduceEqDiff, reduceIte, reduceCtorEq, Nat.reduceSub, Int.reduceBEq, Int.reduceSub, Int.reduceAdd, Int.reduceToNat, Int.reduceLT, Int.reduceLE, Int.reduceEq, Int.reduceNeg, Int.reduceBNe, Int.reduceGT, Int.reduceGE, Nat.reduceMul, Nat.reduceMod, Nat.reduceDiv]
    refine rr_loop hl hc hn hend xs (i + 1) (l ++ [g x]) (n + c x) _ hd hlt (by simp [hts]) (by rw [← hk]; simp) ?_ (by omega) (by delta rrSt rrM; generalize vs (l ++ [g x]) = E; cases E <;> kernel_rfl)
    simp only [List.map_cons, sumI] at hs
    omega
theorem rr_3 {fs : List Fn} {time : Int} {row ps : List V} {e : E} {l : List V} {v : V} {n : Int} (hk : e.op = 3) (h0 : 0 ≤ e.n) (hi : row[e.n.toNat]? = some v) : RrGoal fs time row ps e l n (cv v n) := by
  unfold RrGoal
  have h := index_Vat h0 hi
  simp only [cv] at h ⊢
  rw [rRun_e11]; simp only [rRun_l11, rRun_b, rRun_rs, Try.f16, Int.lt_irrefl, F.EVT, Am.splice, Am.enterN, Am.freshMem, Am.cA, Am.cB, Am.cK, Am.cL, Am.cS, Am.cT, Am.cE, Am.aresults, Am.aresult, Am.codeKey, Nat.reduceAdd, Nat.reduceLeDiff, Nat.reduceBEq, Nat.reduceEqDiff, reduceIte, reduceCtorEq, Nat.reduceSub, Int.reduceBEq, Int.reduceSub, Int.reduceAdd, Int.reduceToNat, Int.reduceLT, Int.reduceLE, Int.reduceEq, Int.reduceNeg, Int.reduceBNe, Int.reduceGT, Int.reduceGE, Nat.reduceMul, Nat.reduceMod, Nat.reduceDiv]
  simp only [rRun_k11, rRun_b, rRun_rs, Try.f16, ld40, hk, h, F.EVT, Am.splice, Am.enterN, Am.freshMem, Am.cA, Am.cB, Am.cK, Am.cL, Am.cS, Am.cT, Am.cE, Am.aresults, Am.aresult, Am.codeKey, Nat.reduceAdd, Nat.reduceLeDiff, Nat.reduceBEq, Nat.reduceEqDiff, reduceIte, reduceCtorEq, Nat.reduceSub, Int.reduceBEq, Int.reduceSub, Int.reduceAdd, Int.reduceToNat, Int.reduceLT, Int.reduceLE, Int.reduceEq, Int.reduceNeg, Int.reduceBNe, Int.reduceGT, Int.reduceGE, Nat.reduceMul, Nat.reduceMod, Nat.reduceDiv]
theorem rr_4 {fs : List Fn} {time : Int} {row ps : List V} {e : E} {l : List V} {v : V} {n : Int} (hk : e.op = 4) (h0 : 0 ≤ e.n) (hi : ps[e.n.toNat]? = some v) : RrGoal fs time row ps e l n (cv v n) := by
  unfold RrGoal
  have h := index_Vat h0 hi
  simp only [cv] at h ⊢
  rw [rRun_e11]; simp only [rRun_l11, rRun_b, rRun_rs, Try.f16, Int.lt_irrefl, F.EVT, Am.splice, Am.enterN, Am.freshMem, Am.cA, Am.cB, Am.cK, Am.cL, Am.cS, Am.cT, Am.cE, Am.aresults, Am.aresult, Am.codeKey, Nat.reduceAdd, Nat.reduceLeDiff, Nat.reduceBEq, Nat.reduceEqDiff, reduceIte, reduceCtorEq, Nat.reduceSub, Int.reduceBEq, Int.reduceSub, Int.reduceAdd, Int.reduceToNat, Int.reduceLT, Int.reduceLE, Int.reduceEq, Int.reduceNeg, Int.reduceBNe, Int.reduceGT, Int.reduceGE, Nat.reduceMul, Nat.reduceMod, Nat.reduceDiv]
  simp only [rRun_k11, rRun_b, rRun_rs, Try.f16, ld40, hk, h, F.EVT, Am.splice, Am.enterN, Am.freshMem, Am.cA, Am.cB, Am.cK, Am.cL, Am.cS, Am.cT, Am.cE, Am.aresults, Am.aresult, Am.codeKey, Nat.reduceAdd, Nat.reduceLeDiff, Nat.reduceBEq, Nat.reduceEqDiff, reduceIte, reduceCtorEq, Nat.reduceSub, Int.reduceBEq, Int.reduceSub, Int.reduceAdd, Int.reduceToNat, Int.reduceLT, Int.reduceLE, Int.reduceEq, Int.reduceNeg, Int.reduceBNe, Int.reduceGT, Int.reduceGE, Nat.reduceMul, Nat.reduceMod, Nat.reduceDiv]
theorem rr_5 {fs : List Fn} {time : Int} {row ps : List V} {e : E} {l : List V} {n : Int} (hk : e.op = 5) : RrGoal fs time row ps e l n (cv (nv time) n) := by
  unfold RrGoal
  simp only [cv, nv]
  rw [rRun_e11]; simp only [rRun_l11, rRun_b, rRun_rs, Try.f16, Int.lt_irrefl, F.EVT, Am.splice, Am.enterN, Am.freshMem, Am.cA, Am.cB, Am.cK, Am.cL, Am.cS, Am.cT, Am.cE, Am.aresults, Am.aresult, Am.codeKey, Nat.reduceAdd, Nat.reduceLeDiff, Nat.reduceBEq, Nat.reduceEqDiff, reduceIte, reduceCtorEq, Nat.reduceSub, Int.reduceBEq, Int.reduceSub, Int.reduceAdd, Int.reduceToNat, Int.reduceLT, Int.reduceLE, Int.reduceEq, Int.reduceNeg, Int.reduceBNe, Int.reduceGT, Int.reduceGE, Nat.reduceMul, Nat.reduceMod, Nat.reduceDiv]
  simp only [rRun_k11, rRun_b, rRun_rs, Try.f16, ld40, hk, F.EVT, Am.splice, Am.enterN, Am.freshMem, Am.cA, Am.cB, Am.cK, Am.cL, Am.cS, Am.cT, Am.cE, Am.aresults, Am.aresult, Am.codeKey, Nat.reduceAdd, Nat.reduceLeDiff, Nat.reduceBEq, Nat.reduceEqDiff, reduceIte, reduceCtorEq, Nat.reduceSub, Int.reduceBEq, Int.reduceSub, Int.reduceAdd, Int.reduceToNat, Int.reduceLT, Int.reduceLE, Int.reduceEq, Int.reduceNeg, Int.reduceBNe, Int.reduceGT, Int.reduceGE, Nat.reduceMul, Nat.reduceMod, Nat.reduceDiv]
  try rfl
theorem rr_22 {fs : List Fn} {time : Int} {row ps : List V} {e : E} {l : List V} {f : Fn} {v : V} {n m : Int} (hk : e.op = 22) (h0 : 0 ≤ e.n) (hf : fs[e.n.toNat]? = some f) (hv : RR 16 [slF fs, f.body.av, I time, slV [], slV l] [] = some (cv v m, [])) (hw : IntKind.i64.wrap (n + m) = n + m) : RrGoal fs time row ps e l n (cv v (n + m)) := by
  unfold RrGoal
  simp only [cv, E.av, show slV [] = .pv (.slc []) from rfl, show slV l = .pv (.slc (vs l)) from rfl] at hv ⊢
  rw [rRun_e11]; simp only [rRun_l11, rRun_b, rRun_rs, Try.f16, Int.lt_irrefl, F.EVT, Am.splice, Am.enterN, Am.freshMem, Am.cA, Am.cB, Am.cK, Am.cL, Am.cS, Am.cT, Am.cE, Am.aresults, Am.aresult, Am.codeKey, Nat.reduceAdd, Nat.reduceLeDiff, Nat.reduceBEq, Nat.reduceEqDiff, reduceIte, reduceCtorEq, Nat.reduceSub, Int.reduceBEq, Int.reduceSub, Int.reduceAdd, Int.reduceToNat, Int.reduceLT, Int.reduceLE, Int.reduceEq, Int.reduceNeg, Int.reduceBNe, Int.reduceGT, Int.reduceGE, Nat.reduceMul, Nat.reduceMod, Nat.reduceDiv]
  simp only [rRun_k11, rRun_b, rRun_rs, Try.f16, ld40, hk, hv, index_fn h0 hf, hw, F.EVT, Am.splice, Am.enterN, Am.freshMem, Am.cA, Am.cB, Am.cK, Am.cL, Am.cS, Am.cT, Am.cE, Am.aresults, Am.aresult, Am.codeKey, Nat.reduceAdd, Nat.reduceLeDiff, Nat.reduceBEq, Nat.reduceEqDiff, reduceIte, reduceCtorEq, Nat.reduceSub, Int.reduceBEq, Int.reduceSub, Int.reduceAdd, Int.reduceToNat, Int.reduceLT, Int.reduceLE, Int.reduceEq, Int.reduceNeg, Int.reduceBNe, Int.reduceGT, Int.reduceGE, Nat.reduceMul, Nat.reduceMod, Nat.reduceDiv]
theorem rr_op {fs : List Fn} {time : Int} {row ps : List V} {e : E} {l : List V} {v : V} {n : Int} (h3 : e.op ≠ 3) (h4 : e.op ≠ 4) (h5 : e.op ≠ 5) (h22 : e.op ≠ 22) (hv : RaGoal e l v) : RrGoal fs time row ps e l n (cv v n) := by
  unfold RrGoal
  unfold RaGoal at hv
  simp only [cv, V.av, E.av] at hv ⊢
  rw [rRun_e11]; simp only [rRun_l11, rRun_b, rRun_rs, Try.f16, Int.lt_irrefl, F.EVT, Am.splice, Am.enterN, Am.freshMem, Am.cA, Am.cB, Am.cK, Am.cL, Am.cS, Am.cT, Am.cE, Am.aresults, Am.aresult, Am.codeKey, Nat.reduceAdd, Nat.reduceLeDiff, Nat.reduceBEq, Nat.reduceEqDiff, reduceIte, reduceCtorEq, Nat.reduceSub, Int.reduceBEq, Int.reduceSub, Int.reduceAdd, Int.reduceToNat, Int.reduceLT, Int.reduceLE, Int.reduceEq, Int.reduceNeg, Int.reduceBNe, Int.reduceGT, Int.reduceGE, Nat.reduceMul, Nat.reduceMod, Nat.reduceDiv]
  simp only [rRun_k11, rRun_b, rRun_rs, Try.f16, ld40, beq_no h3, beq_no h4, beq_no h5, beq_no h22, hv, F.EVT, Am.splice, Am.enterN, Am.freshMem, Am.cA, Am.cB, Am.cK, Am.cL, Am.cS, Am.cT, Am.cE, Am.aresults, Am.aresult, Am.codeKey, Nat.reduceAdd, Nat.reduceLeDiff, Nat.reduceBEq, Nat.reduceEqDiff, reduceIte, reduceCtorEq, Nat.reduceSub, Int.reduceBEq, Int.reduceSub, Int.reduceAdd, Int.reduceToNat, Int.reduceLT, Int.reduceLE, Int.reduceEq, Int.reduceNeg, Int.reduceBNe, Int.reduceGT, Int.reduceGE, Nat.reduceMul, Nat.reduceMod, Nat.reduceDiv]
theorem rr_if {fs : List Fn} {time : Int} {row ps : List V} {e c a b : E} {vc v : V} {n m : Int} (hk : e.op = 21) (ha : e.args = [c, a, b]) (hc : RR 16 [slF fs, c.av, I time, slV row, slV ps] [] = some (cv vc n, []))
    (hv : RR 16 [slF fs, (if vc.n = 1 then a else b).av, I time, slV row, slV ps] [] = some (cv v m, [])) (hn : 0 ≤ n ∧ n ≤ 10000) (hm : 0 ≤ m ∧ m ≤ 10000) : RR 16 [slF fs, e.av, I time, slV row, slV ps] [] = some (cv v (1 + n + m), []) := by
  have h0 := index_E0 (l := e.args) (a := c) (by rw [ha]; rfl)
  have h1 := index_E1 (l := e.args) (a := a) (by rw [ha]; rfl)
  have h2 := index_E2 (l := e.args) (a := b) (by rw [ha]; rfl)
  have w1 : IntKind.i64.wrap (1 + n) = 1 + n := wrap_ok (by omega) (by omega)
  have w2 : IntKind.i64.wrap (1 + n + m) = 1 + n + m := wrap_ok (by omega) (by omega)
  clear ha
  apply rRun_r
  by_cases hn : vc.n = 1
  · rw [if_pos hn] at hv
    simp only [cv, E.av] at hc hv ⊢
    simp only [rRun_b, rRun_h, rRun_rs, Try.f16, ld40, hk, h0, h1, h2, hc, hv, hn, w1, w2, F.EVT, Am.splice, Am.enterN, Am.freshMem, Am.cA, Am.cB, Am.cK, Am.cL, Am.cS, Am.cT, Am.cE, Am.aresults, Am.aresult, Am.codeKey, Nat.reduceAdd, Nat.reduceLeDiff, Nat.reduceBEq, Nat.reduceEqDiff, reduceIte, reduceCtorEq, Nat.reduceSub, Int.reduceBEq, Int.reduceSub, Int.reduceAdd, Int.reduceToNat, Int.reduceLT, Int.reduceLE, Int.reduceEq, Int.reduceNeg, Int.reduceBNe, Int.reduceGT, Int.reduceGE, Nat.reduceMul, Nat.reduceMod, Nat.reduceDiv]
  · rw [if_neg hn] at hv
    simp only [cv, E.av] at hc hv ⊢
    simp only [rRun_b, rRun_h, rRun_rs, Try.f16, ld40, hk, h0, h1, h2, hc, hv, beq_no hn, w1, w2, F.EVT, Am.splice, Am.enterN, Am.freshMem, Am.cA, Am.cB, Am.cK, Am.cL, Am.cS, Am.cT, Am.cE, Am.aresults, Am.aresult, Am.codeKey, Nat.reduceAdd, Nat.reduceLeDiff, Nat.reduceBEq, Nat.reduceEqDiff, reduceIte, reduceCtorEq, Nat.reduceSub, Int.reduceBEq, Int.reduceSub, Int.reduceAdd, Int.reduceToNat, Int.reduceLT, Int.reduceLE, Int.reduceEq, Int.reduceNeg, Int.reduceBNe, Int.reduceGT, Int.reduceGE, Nat.reduceMul, Nat.reduceMod, Nat.reduceDiv]
theorem rr_go {fs : List Fn} {time : Int} {row ps : List V} {e : E} {g : E → V} {c : E → Int} {r : AV} (hk : e.op ≠ 21) (hl : ∀ a ∈ e.args, RR 16 [slF fs, a.av, I time, slV row, slV ps] [] = some (cv (g a) (c a), [])) (hc : ∀ a ∈ e.args, 0 ≤ c a ∧ c a ≤ 10000) (hn : e.args.length ≤ 1000000)
    (hend : RrGoal fs time row ps e (e.args.map g) (1 + sumI (e.args.map c)) r) : RR 16 [slF fs, e.av, I time, slV row, slV ps] [] = some (r, []) := by
  have hloop := rr_loop hl hc hn hend e.args 0 [] 1
  clear hl hend
  apply rRun_r
  simp only [E.av]
  simp only [rRun_b, rRun_h, rRun_rs, Try.f16, ld40, beq_no hk, F.EVT, Am.splice, Am.enterN, Am.freshMem, Am.cA, Am.cB, Am.cK, Am.cL, Am.cS, Am.cT, Am.cE, Am.aresults, Am.aresult, Am.codeKey, Nat.reduceAdd, Nat.reduceLeDiff, Nat.reduceBEq, Nat.reduceEqDiff, reduceIte, reduceCtorEq, Nat.reduceSub, Int.reduceBEq, Int.reduceSub, Int.reduceAdd, Int.reduceToNat, Int.reduceLT, Int.reduceLE, Int.reduceEq, Int.reduceNeg, Int.reduceBNe, Int.reduceGT, Int.reduceGE, Nat.reduceMul, Nat.reduceMod, Nat.reduceDiv]
  exact hloop _ rfl (Nat.zero_le _) rfl rfl rfl ⟨by omega, by omega⟩ (by kernel_rfl)
end Go.Proofs.Ytjbmdfdgeioecaa.X
