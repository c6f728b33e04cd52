/- Inlining, by the answer of the document: the whole. -/
import Derived.Test.YtjbmdfdgeioecaaN43
namespace Go.Proofs.Ytjbmdfdgeioecaa.X
open Go.Proofs.Ytjbmdfdgeioecaa.Am Go.Proofs.Ytjbmdfdgeioecaa.F
set_option linter.unusedVariables false
set_option linter.unusedSimpArgs false
set_option maxRecDepth 100000
set_option maxHeartbeats 1000000
theorem rexpand_ok {bs : List (Option E)} (hbs : ∀ b, some b ∈ bs → parts b ≤ 1000) : ∀ e : E, parts e ≤ 1000 → RR 49 [e.av, .pv (.slc (bsE bs)), .pv (.slc (bsG bs))] [] = some (opAV (expE bs e), []) := by
  apply E.ind
  intro e ih hp
  rw [parts_eq] at hp
  have hn : e.args.length ≤ 1000 := by have := partsL_len e.args; omega
  have hend : ∀ us : List E, us.length = e.args.length → (∀ u ∈ us, parts u ≤ 1000) → RxGoal bs e us (expOp bs e.op e.n e.s us) := by
    intro us hul hus
    by_cases hc : e.op = 22 ∧ 0 ≤ e.n ∧ e.n < bs.length
    · exact rx_call hc.1 hc.2.1 hc.2.2 hus hbs
    · have h1 := partsL_le hus
      have h2 : us.length * 1000 ≤ 1000 * 1000 := Nat.mul_le_mul_right 1000 (by omega)
      exact rx_op hc (by omega)
  have hloop := rexpand_loop (bs := bs) (e := e) (fun a ha => ih a ha (by have := partsL_mem ha; omega)) (by omega) hend e.args 0 []
  simp only [List.nil_append] at hloop
  clear hend
  rw [expE_eq]
  apply rexpand_r
  generalize hr : some (opAV (match expL bs e.args with | some us => expOp bs e.op e.n e.s us | none => none), ([] : List Mem)) = r at hloop ⊢
  simp only [av_e e]
  simp only [rexpand_b, rexpand_h, rexpand_rs, Try.f49, F.EVT, Am.splice, Am.enterN, Am.freshMem, Am.cA, Am.cB, Am.cK, Am.cL, Am.cS, Am.cT, Am.cE, Am.aresults, Am.aresult, Am.codeKey, Nat.reduceAdd, Nat.reduceLeDiff, Nat.reduceBEq, Nat.reduceEqDiff, reduceIte, reduceCtorEq, Nat.reduceSub, Int.reduceBEq, Int.reduceSub, Int.reduceAdd, Int.reduceToNat, Int.reduceLT, Int.reduceLE, Int.reduceEq, Int.reduceNeg, Int.reduceBNe, Int.reduceGT, Int.reduceGE, Nat.reduceMul, Nat.reduceMod, Nat.reduceDiv]
  exact hloop _ rfl (Nat.zero_le _) rfl (fun u hu => by cases hu) (by kernel_rfl)
abbrev riSt (fs : List Fn) (e : E) (bs : List (Option E)) (i : Int) : St := rInline_t4 (slF fs) (.ptr none 3 0) (.ptr none 4 0) (mkOwn 33 (bsE bs)) (mkOwn 37 (bsG bs)) (I i) [⟨[(3, emem e), (4, zE)], [(33, rowT (bsE bs) 4), (37, rowT (bsG bs) 1)]⟩]
theorem rInline_loop {fs : List Fn} {e : E} (hn : fs.length ≤ 1000000) (hp : parts e ≤ 1000) (hb : ∀ f ∈ fs, parts f.body ≤ 1000) : ∀ (xs : List Fn) (i : Nat) (bs : List (Option E)) (st : St), fs.drop i = xs → i ≤ fs.length → bs.length = i → bsL bs xs = bsL [] fs → (∀ b, some b ∈ bs → parts b ≤ 1000) →
    St.forget (rInline_h.at 4) st = riSt fs e bs i → leaveR PP rInline_rs 0 (thenC (blockC 0 (rInline_L 4 st)) (acodeX PP RR rInline_L rInline_k4)) = some (opAV (inlE fs e), [])
  | [], i, bs, st, h, hle, hts, hk, hq, hst => by
    have he : i = fs.length := by have := drop_nil' h; omega
    subst he
    have hx := rexpand_ok hq e hp
    rw [rInline_q4, hst]
    unfold inlE
    rw [← hk]
    simp only [bsL]
    cases hu : expE bs e with
    | none =>
      rw [hu] at hx
      simp only [opAV, Option.getD_none, Option.isSome_none, z_av] at hx ⊢
      simp only [av_e e] at hx
      rw [rInline_e4]; simp only [rInline_k4, rInline_l4, rInline_b, rInline_rs, Try.f22, Int.lt_irrefl, hx, F.EVT, Am.splice, Am.enterN, Am.freshMem, Am.cA, Am.cB, Am.cK, Am.cL, Am.cS, Am.cT, Am.cE, Am.aresults, Am.aresult, Am.codeKey, Nat.reduceAdd, Nat.reduceLeDiff, Nat.reduceBEq, Nat.reduceEqDiff, reduceIte, reduceCtorEq, Nat.reduceSub, Int.reduceBEq, Int.reduceSub, Int.reduceAdd, Int.reduceToNat, Int.reduceLT, Int.reduceLE, Int.reduceEq, Int.reduceNeg, Int.reduceBNe, Int.reduceGT, Int.reduceGE, Nat.reduceMul, Nat.reduceMod, Nat.reduceDiv]
      try rfl
    | some x =>
      rw [hu] at hx
      have hxp := expE_parts hu
      have hlv := rLevels_ok x (by omega)
      simp only [opAV, Option.getD_some, Option.isSome_some, av_e e, av_e x] at hx hlv
      simp only
      by_cases hl : levels x > 12
      · have hl' : (levels x : Int) > 12 := by omega
        rw [if_pos hl]
        simp only [opAV, Option.getD_none, Option.isSome_none, z_av]
        rw [rInline_e4]; simp only [rInline_k4, rInline_l4, rInline_b, rInline_rs, Try.f22, Int.lt_irrefl, hx, hlv, hl', F.EVT, Am.splice, Am.enterN, Am.freshMem, Am.cA, Am.cB, Am.cK, Am.cL, Am.cS, Am.cT, Am.cE, Am.aresults, Am.aresult, Am.codeKey, Nat.reduceAdd, Nat.reduceLeDiff, Nat.reduceBEq, Nat.reduceEqDiff, reduceIte, reduceCtorEq, Nat.reduceSub, Int.reduceBEq, Int.reduceSub, Int.reduceAdd, Int.reduceToNat, Int.reduceLT, Int.reduceLE, Int.reduceEq, Int.reduceNeg, Int.reduceBNe, Int.reduceGT, Int.reduceGE, Nat.reduceMul, Nat.reduceMod, Nat.reduceDiv]
        try rfl
      · have hl' : ¬ (levels x : Int) > 12 := by omega
        rw [if_neg hl]
        simp only [opAV, Option.getD_some, Option.isSome_some, av_e x]
        rw [rInline_e4]; simp only [rInline_k4, rInline_l4, rInline_b, rInline_rs, Try.f22, Int.lt_irrefl, hx, hlv, hl', F.EVT, Am.splice, Am.enterN, Am.freshMem, Am.cA, Am.cB, Am.cK, Am.cL, Am.cS, Am.cT, Am.cE, Am.aresults, Am.aresult, Am.codeKey, Nat.reduceAdd, Nat.reduceLeDiff, Nat.reduceBEq, Nat.reduceEqDiff, reduceIte, reduceCtorEq, Nat.reduceSub, Int.reduceBEq, Int.reduceSub, Int.reduceAdd, Int.reduceToNat, Int.reduceLT, Int.reduceLE, Int.reduceEq, Int.reduceNeg, Int.reduceBNe, Int.reduceGT, Int.reduceGE, Nat.reduceMul, Nat.reduceMod, Nat.reduceDiv]
        try rfl
  | f :: xs, i, bs, st, h, hle, hts, hk, hq, hst => by
    obtain ⟨hlt, hi, hd⟩ := drop_cons h
    have hlt' : (i : Int) < fs.length := by omega
    have hx := rexpand_ok (bs := bs) hq f.body (hb f (List.mem_of_getElem? hi))
    have hbb : ((bsE bs).length + 1) * 56 ≤ 140737488355328 := by rw [bsE_len]; omega
    have hbg : ((bsG bs).length + 1) * 1 ≤ 140737488355328 := by rw [bsG_len]; omega
    have hap : bsE bs ++ [((expE bs f.body).getD E.z).pv] = bsE (bs ++ [expE bs f.body]) := by simp [bsE]
    have hag : bsG bs ++ [.bool (expE bs f.body).isSome] = bsG (bs ++ [expE bs f.body]) := by simp [bsG]
    have hq' := bs_parts (e := f.body) hq
    have hk' : bsL (bs ++ [expE bs f.body]) xs = bsL [] fs := hk
    generalize expE bs f.body = o at hx hap hag hq' hk'
    rw [E.pv_eq] at hap
    simp only [opAV, av_e f.body, av_e (o.getD E.z)] at hx
    rw [rInline_q4, hst]
    generalize hr : some (opAV (inlE fs e), ([] : List Mem)) = r
    rw [rInline_e4]; simp only [rInline_l4, rInline_b, rInline_rs, Try.f22, index_F hi, hlt', hx, hbb, hbg, hap, hag, wrapS hlt (show fs.length ≤ LIM by simp only [LIM]; omega), F.EVT, Am.splice, Am.enterN, Am.freshMem, Am.cA, Am.cB, Am.cK, Am.cL, Am.cS, Am.cT, Am.cE, Am.aresults, Am.aresult, Am.codeKey, Nat.reduceAdd, Nat.reduceLeDiff, Nat.reduceBEq, Nat.reduceEqDiff, reduceIte, reduceCtorEq, Nat.reduceSub, Int.reduceBEq, Int.reduceSub, Int.reduceAdd, Int.reduceToNat, Int.reduceLT, Int.reduceLE, Int.reduceEq, Int.reduceNeg, Int.reduceBNe, Int.reduceGT, Int.reduceGE, Nat.reduceMul, Nat.reduceMod, Nat.reduceDiv]
    rw [← hr]
    exact rInline_loop hn hp hb xs (i + 1) (bs ++ [o]) _ hd hlt (by simp [hts]) hk' hq' (by delta riSt; generalize bsE (bs ++ [o]) = E; generalize bsG (bs ++ [o]) = E'; cases E <;> cases E' <;> kernel_rfl)
theorem rInline_ok {fs : List Fn} {e : E} (hF : fairB fs = true) (hp : parts e ≤ 1000) : RR 22 [slF fs, e.av] [] = some (opAV (inlE fs e), []) := by
  have hn : fs.length ≤ 1000000 := by have := hF; unfold fairB at this; simp only [Bool.and_eq_true, decide_eq_true_eq] at this; omega
  have hloop := rInline_loop hn hp (fun f hf => by have := fair_parts60 hF f hf; omega) fs 0 []
  apply rInline_r
  generalize hr : some (opAV (inlE fs e), ([] : List Mem)) = r at hloop ⊢
  simp only [av_e e]
  simp only [rInline_b, rInline_h, rInline_rs, Try.f22, F.EVT, Am.splice, Am.enterN, Am.freshMem, Am.cA, Am.cB, Am.cK, Am.cL, Am.cS, Am.cT, Am.cE, Am.aresults, Am.aresult, Am.codeKey, Nat.reduceAdd, Nat.reduceLeDiff, Nat.reduceBEq, Nat.reduceEqDiff, reduceIte, reduceCtorEq, Nat.reduceSub, Int.reduceBEq, Int.reduceSub, Int.reduceAdd, Int.reduceToNat, Int.reduceLT, Int.reduceLE, Int.reduceEq, Int.reduceNeg, Int.reduceBNe, Int.reduceGT, Int.reduceGE, Nat.reduceMul, Nat.reduceMod, Nat.reduceDiv]
  exact hloop _ rfl (Nat.zero_le _) rfl rfl (fun b hb => by cases hb) (by kernel_rfl)
end Go.Proofs.Ytjbmdfdgeioecaa.X
