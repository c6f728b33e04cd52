/- Steps, by the code. -/
import Derived.Test.YtjbmdfdgeioecaaN25
namespace Go.Proofs.Ytjbmdfdgeioecaa.X
open Go.Proofs.Ytjbmdfdgeioecaa.Am Go.Proofs.Ytjbmdfdgeioecaa.F
set_option linter.unusedVariables false
set_option linter.unusedSimpArgs false
set_option maxRecDepth 100000
set_option maxHeartbeats 1000000
theorem cfold_add {y : Int} (hy : CapI y) : ∀ (ks : List Int) (n : Int), CapI n → (∀ k ∈ ks, CapI k) → cfold (capM (n + y)) ks = capM (cfold n ks + y)
  | [], n, _, _ => rfl
  | k :: ks, n, hn, hk => by
    have hkk := hk k List.mem_cons_self
    have h1 : capM (capM (n + y) + k) = capM (capM (n + k) + y) := by
      unfold CapI at hy hn hkk
      unfold capM
      split <;> split <;> split <;> split <;> omega
    show cfold (capM (capM (n + y) + k)) ks = capM (cfold (capM (n + k)) ks + y)
    rw [h1]
    unfold CapI at hn hkk
    exact cfold_add hy ks (capM (n + k)) (capM_ok (by omega)) (fun x hx => hk x (List.mem_cons_of_mem _ hx))
theorem plus_cap {a b : Int} (ha : CapI a) (hb : CapI b) : RR 80 [I a, I b] [] = some (I (capM (a + b)), []) := by
  have h := plus_ok a b
  unfold CapI at ha hb
  rw [wrap_ok (by omega) (by omega)] at h
  exact h
abbrev st13 (e : E) (l ks : List Int) (n i : Int) : St := steps_t13 (I n) (mkOwn 23 (ints ks)) (I ks.length) (I i) [⟨[], [(23, rowT (ints ks) 1)]⟩]
theorem steps_13 {l : List Int} {e : E} {ks : List Int} {o : Int} (hk : ∀ k ∈ ks, CapI k) (hn : ks.length ≤ LIM) : ∀ (xs : List Int) (i : Nat) (n : Int) (st : St), ks.drop i = xs → i ≤ ks.length → CapI n → cfold n xs = o →
    St.forget (steps_h.at 13) st = st13 e l ks n i → leaveR PP steps_rs 0 (thenC (blockC 2 (steps_L 13 st)) (acodeX PP RR [] steps_L steps_k13)) = some (I o, [])
  | [], i, n, st, h, hle, hc, hf, hst => by
    have he : i = ks.length := by have := drop_nil' h; omega
    subst he
    rw [steps_q13, hst, ← hf]
    simp only [cfold]
    rw [steps_e13]; simp only [steps_k13, steps_l13, steps_b, steps_rs, Try.f43, Int.lt_irrefl, F.EVT, Am.splice, Am.enterN, Am.freshMem, Am.cA, Am.cB, Am.cK, Am.cL, Am.cS, Am.cT, Am.cE, Am.aresults, Am.aresult, Am.codeKey, Am.frzTop, Am.spliceP, Nat.reduceAdd, Nat.reduceLeDiff, Nat.reduceBEq, Nat.reduceEqDiff, reduceIte, reduceCtorEq, Nat.reduceSub, Int.reduceBEq, Int.reduceSub, Int.reduceAdd, Int.reduceToNat, Int.reduceLT, Int.reduceLE, Int.reduceEq, Int.reduceNeg, Int.reduceBNe, Int.reduceGT, Int.reduceGE, Nat.reduceMul, Nat.reduceMod, Nat.reduceDiv]
    try rfl
  | x :: xs, i, n, st, h, hle, hc, hf, hst => by
    obtain ⟨hlt, hi, hd⟩ := drop_cons h
    have hlt' : (i : Int) < ks.length := by omega
    have hx := hk _ (List.mem_of_getElem? hi)
    have hp := plus_cap hc hx
    unfold CapI at hx hc
    rw [steps_q13, hst]
    rw [steps_e13]; simp only [steps_l13, steps_b, steps_rs, Try.f43, mk_nat hi, hlt', hp, wrapS hlt hn, ints_len, F.EVT, Am.splice, Am.enterN, Am.freshMem, Am.cA, Am.cB, Am.cK, Am.cL, Am.cS, Am.cT, Am.cE, Am.aresults, Am.aresult, Am.codeKey, Am.frzTop, Am.spliceP, Nat.reduceAdd, Nat.reduceLeDiff, Nat.reduceBEq, Nat.reduceEqDiff, reduceIte, reduceCtorEq, Nat.reduceSub, Int.reduceBEq, Int.reduceSub, Int.reduceAdd, Int.reduceToNat, Int.reduceLT, Int.reduceLE, Int.reduceEq, Int.reduceNeg, Int.reduceBNe, Int.reduceGT, Int.reduceGE, Nat.reduceMul, Nat.reduceMod, Nat.reduceDiv]
    exact steps_13 (e := e) (l := l) hk hn xs (i + 1) (capM (n + x)) _ hd hlt (capM_ok (by omega)) hf (by delta st13; generalize ints ks = E; cases E <;> kernel_rfl)
abbrev st3 (l : List Int) (e : E) (ks : List Int) (i : Int) : St := steps_t3 (slI l) (.ptr none 3 0) (mkOwn 23 (ints ks)) (.pv (.slc (e.args.map E.pv))) (I e.args.length) (I i) [⟨[(3, emem e)], [(23, rowT (ints ks) 1)]⟩]
theorem steps_end {l : List Int} {e : E} {ks : List Int} (hl : ∀ x ∈ l, CapI x) (hk : ∀ k ∈ ks, CapI k) (hts : ks.length = e.args.length) (hn : ks.length ≤ LIM) (h3 : e.op = 21 → ks.length = 3) (h22 : e.op = 22 → 0 ≤ e.n ∧ e.n < l.length) :
    leaveR PP steps_rs 0 (thenC (blockC 0 (steps_X3 (st3 l e ks e.args.length))) (acodeX PP RR [] steps_L steps_k3)) = some (I (cntOp l ks e.op e.n), []) := by
  have h1c : CapI 1 := ⟨by omega, by omega⟩
  by_cases h21 : e.op = 21
  · obtain ⟨a, b, c, rfl⟩ := len3 (l := ks) (by have := h3 h21; omega)
    have ha := hk a (by simp)
    have hm := mxI_ok (hk b (by simp)) (hk c (by simp))
    unfold CapI at ha hm
    have hm' : IntKind.i64.wrap (1 + a) = 1 + a := wrap_ok (by omega) (by omega)
    have hp := plus_ok (1 + a) (mxI b c)
    rw [wrap_ok (by omega) (by omega)] at hp
    unfold cntOp
    rw [if_pos ⟨h21, rfl⟩]
    simp only
    unfold mxI at hp ⊢
    unfold capM
    generalize (if 1099511627776 < 1 + a + (if c > b then c else b) then 1099511627776 else 1 + a + (if c > b then c else b)) = w at hp ⊢
    rw [steps_e3]; simp only [steps_l3, steps_b, steps_rs, Try.f43, Int.lt_irrefl, F.EVT, Am.splice, Am.enterN, Am.freshMem, Am.cA, Am.cB, Am.cK, Am.cL, Am.cS, Am.cT, Am.cE, Am.aresults, Am.aresult, Am.codeKey, Am.frzTop, Am.spliceP, Nat.reduceAdd, Nat.reduceLeDiff, Nat.reduceBEq, Nat.reduceEqDiff, reduceIte, reduceCtorEq, Nat.reduceSub, Int.reduceBEq, Int.reduceSub, Int.reduceAdd, Int.reduceToNat, Int.reduceLT, Int.reduceLE, Int.reduceEq, Int.reduceNeg, Int.reduceBNe, Int.reduceGT, Int.reduceGE, Nat.reduceMul, Nat.reduceMod, Nat.reduceDiv]
    simp only [steps_k3, steps_b, steps_rs, Try.f43, h21, mk_30, mk_31, mk_32, hm', hp, F.EVT, Am.splice, Am.enterN, Am.freshMem, Am.cA, Am.cB, Am.cK, Am.cL, Am.cS, Am.cT, Am.cE, Am.aresults, Am.aresult, Am.codeKey, Am.frzTop, Am.spliceP, Nat.reduceAdd, Nat.reduceLeDiff, Nat.reduceBEq, Nat.reduceEqDiff, reduceIte, reduceCtorEq, Nat.reduceSub, Int.reduceBEq, Int.reduceSub, Int.reduceAdd, Int.reduceToNat, Int.reduceLT, Int.reduceLE, Int.reduceEq, Int.reduceNeg, Int.reduceBNe, Int.reduceGT, Int.reduceGE, Nat.reduceMul, Nat.reduceMod, Nat.reduceDiv]
    try rfl
  · by_cases hc : e.op = 22
    · obtain ⟨h0, hlt⟩ := h22 hc
      have hlt' : e.n.toNat < l.length := by omega
      have hx := hl _ (List.getElem_mem hlt')
      have hg : l[e.n.toNat]? = some l[e.n.toNat] := List.getElem?_eq_getElem hlt'
      have ho : cntOp l ks e.op e.n = capM (cfold 1 ks + l[e.n.toNat]) := by
        unfold cntOp
        rw [if_neg (fun q => h21 q.1), if_pos ⟨hc, h0, hlt⟩, List.getD_eq_getElem?_getD, hg, Option.getD_some]
      rw [ho]
      generalize l[e.n.toNat] = y at hx hg
      have hp := plus_cap h1c hx
      rw [← cfold_add hx ks 1 h1c hk]
      generalize hoo : cfold (capM (1 + y)) ks = oo
      have hcy : CapI (capM (1 + y)) := by unfold CapI at hx; exact capM_ok (by omega)
      generalize capM (1 + y) = n0 at hp hoo hcy
      rw [steps_e3]; simp only [steps_l3, steps_b, steps_rs, Try.f43, Int.lt_irrefl, F.EVT, Am.splice, Am.enterN, Am.freshMem, Am.cA, Am.cB, Am.cK, Am.cL, Am.cS, Am.cT, Am.cE, Am.aresults, Am.aresult, Am.codeKey, Am.frzTop, Am.spliceP, Nat.reduceAdd, Nat.reduceLeDiff, Nat.reduceBEq, Nat.reduceEqDiff, reduceIte, reduceCtorEq, Nat.reduceSub, Int.reduceBEq, Int.reduceSub, Int.reduceAdd, Int.reduceToNat, Int.reduceLT, Int.reduceLE, Int.reduceEq, Int.reduceNeg, Int.reduceBNe, Int.reduceGT, Int.reduceGE, Nat.reduceMul, Nat.reduceMod, Nat.reduceDiv]
      simp only [steps_k3, steps_b, steps_rs, Try.f43, hc, index_at h0 hg, hp, ints_len, F.EVT, Am.splice, Am.enterN, Am.freshMem, Am.cA, Am.cB, Am.cK, Am.cL, Am.cS, Am.cT, Am.cE, Am.aresults, Am.aresult, Am.codeKey, Am.frzTop, Am.spliceP, Nat.reduceAdd, Nat.reduceLeDiff, Nat.reduceBEq, Nat.reduceEqDiff, reduceIte, reduceCtorEq, Nat.reduceSub, Int.reduceBEq, Int.reduceSub, Int.reduceAdd, Int.reduceToNat, Int.reduceLT, Int.reduceLE, Int.reduceEq, Int.reduceNeg, Int.reduceBNe, Int.reduceGT, Int.reduceGE, Nat.reduceMul, Nat.reduceMod, Nat.reduceDiv]
      exact steps_13 (e := e) (l := l) hk hn ks 0 n0 _ rfl (Nat.zero_le _) hcy hoo (by delta st13; generalize ints ks = E; cases E <;> kernel_rfl)
    · have ho : cntOp l ks e.op e.n = cfold 1 ks := by
        unfold cntOp
        rw [if_neg (fun q => h21 q.1), if_neg (fun q => hc q.1)]
      rw [ho]
      generalize hoo : cfold 1 ks = oo
      rw [steps_e3]; simp only [steps_l3, steps_b, steps_rs, Try.f43, Int.lt_irrefl, F.EVT, Am.splice, Am.enterN, Am.freshMem, Am.cA, Am.cB, Am.cK, Am.cL, Am.cS, Am.cT, Am.cE, Am.aresults, Am.aresult, Am.codeKey, Am.frzTop, Am.spliceP, Nat.reduceAdd, Nat.reduceLeDiff, Nat.reduceBEq, Nat.reduceEqDiff, reduceIte, reduceCtorEq, Nat.reduceSub, Int.reduceBEq, Int.reduceSub, Int.reduceAdd, Int.reduceToNat, Int.reduceLT, Int.reduceLE, Int.reduceEq, Int.reduceNeg, Int.reduceBNe, Int.reduceGT, Int.reduceGE, Nat.reduceMul, Nat.reduceMod, Nat.reduceDiv]
      simp only [steps_k3, steps_b, steps_rs, Try.f43, beq_no h21, beq_no hc, ints_len, F.EVT, Am.splice, Am.enterN, Am.freshMem, Am.cA, Am.cB, Am.cK, Am.cL, Am.cS, Am.cT, Am.cE, Am.aresults, Am.aresult, Am.codeKey, Am.frzTop, Am.spliceP, Nat.reduceAdd, Nat.reduceLeDiff, Nat.reduceBEq, Nat.reduceEqDiff, reduceIte, reduceCtorEq, Nat.reduceSub, Int.reduceBEq, Int.reduceSub, Int.reduceAdd, Int.reduceToNat, Int.reduceLT, Int.reduceLE, Int.reduceEq, Int.reduceNeg, Int.reduceBNe, Int.reduceGT, Int.reduceGE, Nat.reduceMul, Nat.reduceMod, Nat.reduceDiv]
      exact steps_13 (e := e) (l := l) hk hn ks 0 1 _ rfl (Nat.zero_le _) h1c hoo (by delta st13; generalize ints ks = E; cases E <;> kernel_rfl)
theorem steps_loop {l : List Int} {e : E} {o : Int} (hr : ∀ a ∈ e.args, RR 43 [slI l, a.av] [] = some (I (cnt l a), [])) (hn : e.args.length ≤ 1000000)
    (hend : leaveR PP steps_rs 0 (thenC (blockC 0 (steps_X3 (st3 l e (cntL l e.args) e.args.length))) (acodeX PP RR [] steps_L steps_k3)) = some (I o, [])) : ∀ (xs : List E) (i : Nat) (ks : List Int) (st : St), e.args.drop i = xs → i ≤ e.args.length → ks.length = i → ks ++ cntL l xs = cntL l e.args →
    St.forget (steps_h.at 3) st = st3 l e ks i → leaveR PP steps_rs 0 (thenC (blockC 0 (steps_L 3 st)) (acodeX PP RR [] steps_L steps_k3)) = some (I o, [])
  | [], i, ks, st, h, hle, hts, hk, hst => by
    have he : i = e.args.length := by have := drop_nil' h; omega
    subst he
    rw [steps_q3, hst]
    simp only [cntL, List.append_nil] at hk
    rw [hk]
    exact hend
  | x :: xs, i, ks, st, h, hle, hts, hk, hst => by
    obtain ⟨hlt, hi, hd⟩ := drop_cons h
    have hlt' : (i : Int) < e.args.length := by omega
    have hx := hr x (List.mem_of_getElem? hi)
    simp only [E.av] at hx
    have hb : ((ints ks).length + 1) * 8 ≤ 140737488355328 := by rw [ints_len]; omega
    have hap : ints ks ++ [.int .i64 (cnt l x)] = ints (ks ++ [cnt l x]) := by simp [ints]
    rw [steps_q3, hst]
    rw [steps_e3]; simp only [steps_l3, steps_b, steps_rs, Try.f43, index_E hi, hlt', hx, hb, hap, wrapS hlt (show e.args.length ≤ LIM by simp only [LIM]; omega), F.EVT, Am.splice, Am.enterN, Am.freshMem, Am.cA, Am.cB, Am.cK, Am.cL, Am.cS, Am.cT, Am.cE, Am.aresults, Am.aresult, Am.codeKey, Am.frzTop, Am.spliceP, Nat.reduceAdd, Nat.reduceLeDiff, Nat.reduceBEq, Nat.reduceEqDiff, reduceIte, reduceCtorEq, Nat.reduceSub, Int.reduceBEq, Int.reduceSub, Int.reduceAdd, Int.reduceToNat, Int.reduceLT, Int.reduceLE, Int.reduceEq, Int.reduceNeg, Int.reduceBNe, Int.reduceGT, Int.reduceGE, Nat.reduceMul, Nat.reduceMod, Nat.reduceDiv]
    exact steps_loop hr hn hend xs (i + 1) (ks ++ [cnt l x]) _ hd hlt (by simp [hts]) (by rw [← hk]; simp [cntL]) (by delta st3; generalize ints (ks ++ [cnt l x]) = E; cases E <;> kernel_rfl)
theorem tyL_len {fs : List Fn} {cols params : List Int} : ∀ {as' : List E} {ts : List Int}, tyL fs cols params as' = some ts → ts.length = as'.length
  | [], ts, h => by simp only [tyL, Option.some.injEq] at h; subst h; rfl
  | b :: l, ts, h => by
    simp only [tyL] at h
    cases hb : ty fs cols params b with
    | none => rw [hb] at h; cases h
    | some u =>
      rw [hb] at h
      simp only at h
      cases hl : tyL fs cols params l with
      | none => rw [hl] at h; cases h
      | some us =>
        rw [hl] at h
        simp only [Option.some.injEq] at h
        subst h
        simp only [List.length_cons, tyL_len hl]
theorem ty_shape {fs : List Fn} {cols params : List Int} {e : E} {t : Int} (h : ty fs cols params e = some t) : (∀ a ∈ e.args, ∃ u, ty fs cols params a = some u) ∧ (e.op = 21 → e.args.length = 3) ∧ (e.op = 22 → 0 ≤ e.n ∧ e.n < fs.length) := by
  rw [ty_eq] at h
  cases hl : tyL fs cols params e.args with
  | none => rw [hl] at h; cases h
  | some ts =>
    rw [hl] at h
    simp only at h
    refine ⟨tyL_mem hl, ?_, ?_⟩
    · intro h21
      have hc := tyCase h
      rw [h21] at hc
      rw [← tyL_len hl]
      generalize e.n = n at hc
      generalize e.s = s at hc
      cases hc with
      | c21 => rfl
      | num _ _ hq => omega
      | cmp _ _ _ hq => omega
      | log _ _ hq => omega
    · intro h22
      have hc := tyCase h
      rw [h22] at hc
      generalize e.n = n at hc ⊢
      generalize e.s = s at hc
      cases hc with
      | c22 _ _ _ _ hq =>
        obtain ⟨h0, f, hf, _⟩ := callTy_some hq
        have := (List.getElem?_eq_some_iff.1 hf).1
        omega
      | num _ _ hq => omega
      | cmp _ _ _ hq => omega
      | log _ _ hq => omega
theorem steps_ok {l : List Int} {fs : List Fn} {cols params : List Int} (hl : ∀ x ∈ l, CapI x) (hlen : fs.length ≤ l.length) : ∀ e : E, parts e ≤ 1000000 → ∀ t, ty fs cols params e = some t → RR 43 [slI l, e.av] [] = some (I (cnt l e), []) := by
  apply E.ind (p := fun e => parts e ≤ 1000000 → ∀ t, ty fs cols params e = some t → RR 43 [slI l, e.av] [] = some (I (cnt l e), []))
  intro e ih hp t ht
  rw [parts_eq] at hp
  have hn : e.args.length ≤ 1000000 := by have := partsL_len e.args; omega
  obtain ⟨s1, s2, s3⟩ := ty_shape ht
  have hend := steps_end (l := l) (e := e) (ks := cntL l e.args) hl (cntL_ok hl _) (cntL_len l _) (by rw [cntL_len]; simp only [LIM]; omega) (fun h => by rw [cntL_len]; exact s2 h) (fun h => by have := s3 h; omega)
  rw [← cnt_eq] at hend
  have hloop := steps_loop (fun a ha => by obtain ⟨u, hu⟩ := s1 a ha; exact ih a ha (by have := partsL_mem ha; omega) u hu) hn hend e.args 0 []
  clear hend
  apply steps_r
  generalize cnt l e = o at hloop ⊢
  simp only [steps_b, steps_h, steps_rs, Try.f43, E.av, F.EVT, Am.splice, Am.enterN, Am.freshMem, Am.cA, Am.cB, Am.cK, Am.cL, Am.cS, Am.cT, Am.cE, Am.aresults, Am.aresult, Am.codeKey, Am.frzTop, Am.spliceP, Nat.reduceAdd, Nat.reduceLeDiff, Nat.reduceBEq, Nat.reduceEqDiff, reduceIte, reduceCtorEq, Nat.reduceSub, Int.reduceBEq, Int.reduceSub, Int.reduceAdd, Int.reduceToNat, Int.reduceLT, Int.reduceLE, Int.reduceEq, Int.reduceNeg, Int.reduceBNe, Int.reduceGT, Int.reduceGE, Nat.reduceMul, Nat.reduceMod, Nat.reduceDiv]
  exact hloop _ rfl (Nat.zero_le _) rfl rfl (by kernel_rfl)
theorem bodiesL_len : ∀ (fs : List Fn) (l : List Int), (bodiesL l fs).length = l.length + fs.length
  | [], l => rfl
  | f :: fs, l => by simp only [bodiesL, bodiesL_len fs, List.length_append, List.length_cons, List.length_nil]; omega
abbrev xs3 (fs : List Fn) (e : E) (l : List Int) (i : Int) : St := xSteps_t3 (.ptr none 3 0) (mkOwn 20 (ints l)) (slF fs) (I fs.length) (I i) [⟨[(3, emem e)], [(20, rowT (ints l) 1)]⟩]
theorem xSteps_loop {fs : List Fn} {e : E} {cols params : List Int} {t : Int} (hn : fs.length ≤ 1000000) (hp : parts e ≤ 1000000) (hR : FnsOK fs) (ht : ty fs cols params e = some t) : ∀ (xs : List Fn) (i : Nat) (l : List Int) (st : St), fs.drop i = xs → i ≤ fs.length → l.length = i → bodiesL l xs = bodiesL [] fs → (∀ x ∈ l, CapI x) →
    St.forget (xSteps_h.at 3) st = xs3 fs e l i → leaveR PP xSteps_rs 0 (thenC (blockC 0 (xSteps_L 3 st)) (acodeX PP RR [] xSteps_L xSteps_k3)) = some (I (stepsOf fs e), [])
  | [], i, l, st, h, hle, hts, hk, hl, hst => by
    have he : i = fs.length := by have := drop_nil' h; omega
    subst he
    have hx := steps_ok hl (by omega) e hp t ht
    simp only [E.av] at hx
    rw [xSteps_q3, hst, stepsOf, ← hk]
    simp only [bodiesL]
    rw [xSteps_e3]; simp only [xSteps_k3, xSteps_l3, xSteps_b, xSteps_rs, Try.f15, Int.lt_irrefl, hx, F.EVT, Am.splice, Am.enterN, Am.freshMem, Am.cA, Am.cB, Am.cK, Am.cL, Am.cS, Am.cT, Am.cE, Am.aresults, Am.aresult, Am.codeKey, Am.frzTop, Am.spliceP, Nat.reduceAdd, Nat.reduceLeDiff, Nat.reduceBEq, Nat.reduceEqDiff, reduceIte, reduceCtorEq, Nat.reduceSub, Int.reduceBEq, Int.reduceSub, Int.reduceAdd, Int.reduceToNat, Int.reduceLT, Int.reduceLE, Int.reduceEq, Int.reduceNeg, Int.reduceBNe, Int.reduceGT, Int.reduceGE, Nat.reduceMul, Nat.reduceMod, Nat.reduceDiv]
    try rfl
  | x :: xs, i, l, st, h, hle, hts, hk, hl, hst => by
    obtain ⟨hlt, hi, hd⟩ := drop_cons h
    have hlt' : (i : Int) < fs.length := by omega
    obtain ⟨r1, r2⟩ := hR i x hi
    have hx := steps_ok (l := l) hl (by rw [List.length_take]; omega) x.body r2 _ r1
    simp only [E.av] at hx
    have hbb : ((ints l).length + 1) * 8 ≤ 140737488355328 := by rw [ints_len]; omega
    have hap : ints l ++ [.int .i64 (cnt l x.body)] = ints (l ++ [cnt l x.body]) := by simp [ints]
    rw [xSteps_q3, hst]
    rw [xSteps_e3]; simp only [xSteps_l3, xSteps_b, xSteps_rs, Try.f15, index_F hi, hlt', hx, hbb, hap, wrapS hlt (show fs.length ≤ LIM by simp only [LIM]; omega), F.EVT, Am.splice, Am.enterN, Am.freshMem, Am.cA, Am.cB, Am.cK, Am.cL, Am.cS, Am.cT, Am.cE, Am.aresults, Am.aresult, Am.codeKey, Am.frzTop, Am.spliceP, Nat.reduceAdd, Nat.reduceLeDiff, Nat.reduceBEq, Nat.reduceEqDiff, reduceIte, reduceCtorEq, Nat.reduceSub, Int.reduceBEq, Int.reduceSub, Int.reduceAdd, Int.reduceToNat, Int.reduceLT, Int.reduceLE, Int.reduceEq, Int.reduceNeg, Int.reduceBNe, Int.reduceGT, Int.reduceGE, Nat.reduceMul, Nat.reduceMod, Nat.reduceDiv]
    refine xSteps_loop hn hp hR ht xs (i + 1) (l ++ [cnt l x.body]) _ hd hlt (by simp [hts]) hk ?_ (by delta xs3; generalize ints (l ++ [cnt l x.body]) = E; cases E <;> kernel_rfl)
    intro y hy
    rcases List.mem_append.1 hy with hy | hy
    · exact hl y hy
    · simp only [List.mem_singleton] at hy; subst hy; exact cnt_ok hl _
theorem xSteps_ok {fs : List Fn} {e : E} {row : List V} {t : Int} (G : Good fs e row t) : RR 15 [slF fs, e.av] [] = some (I (stepsOf fs e), []) := by
  have hn : fs.length ≤ 1000000 := by have := G.fair; unfold fairB at this; simp only [Bool.and_eq_true, decide_eq_true_eq] at this; omega
  have hloop := xSteps_loop hn G.parts G.fns G.ty fs 0 []
  apply xSteps_r
  simp only [xSteps_b, xSteps_h, xSteps_rs, Try.f15, E.av, F.EVT, Am.splice, Am.enterN, Am.freshMem, Am.cA, Am.cB, Am.cK, Am.cL, Am.cS, Am.cT, Am.cE, Am.aresults, Am.aresult, Am.codeKey, Am.frzTop, Am.spliceP, Nat.reduceAdd, Nat.reduceLeDiff, Nat.reduceBEq, Nat.reduceEqDiff, reduceIte, reduceCtorEq, Nat.reduceSub, Int.reduceBEq, Int.reduceSub, Int.reduceAdd, Int.reduceToNat, Int.reduceLT, Int.reduceLE, Int.reduceEq, Int.reduceNeg, Int.reduceBNe, Int.reduceGT, Int.reduceGE, Nat.reduceMul, Nat.reduceMod, Nat.reduceDiv]
  exact hloop _ rfl (Nat.zero_le _) rfl rfl (fun x hx => by cases hx) (by kernel_rfl)
end Go.Proofs.Ytjbmdfdgeioecaa.X
