/- Inlining, by the answer of the document. -/
import Derived.Test.YtjbmdfdgeioecaaN42
namespace Go.Proofs.Ytjbmdfdgeioecaa.X
open Go.Proofs.Ytjbmdfdgeioecaa.Am Go.Proofs.Ytjbmdfdgeioecaa.F
set_option linter.unusedVariables false
set_option linter.unusedSimpArgs false
set_option maxRecDepth 100000
set_option maxHeartbeats 1000000
def bsE (bs : List (Option E)) : List PV := bs.map fun o => (o.getD E.z).pv
def bsG (bs : List (Option E)) : List PV := bs.map fun o => .bool o.isSome
theorem bsE_len (l : List (Option E)) : (bsE l).length = l.length := List.length_map _
theorem bsG_len (l : List (Option E)) : (bsG l).length = l.length := List.length_map _
theorem index_bE {l : List (Option E)} {n : Int} {o : Option E} (h0 : 0 ≤ n) (h : l[n.toNat]? = some o) : indexC 4 (.pv (.slc (bsE l))) n = some (.eptr [.int .i64 (o.getD E.z).op, .int .i64 (o.getD E.z).n, .str (o.getD E.z).s, .slc ((o.getD E.z).args.map E.pv)]) := by
  simp [indexC, AV.slc?, h, h0, bsE, E.pv_len, E.pv_eq (o.getD E.z), PV.cells]
theorem index_bG {l : List (Option E)} {n : Int} {o : Option E} (h0 : 0 ≤ n) (h : l[n.toNat]? = some o) : indexC 1 (.pv (.slc (bsG l))) n = some (.eptr [.bool o.isSome]) := by
  simp [indexC, AV.slc?, h, h0, bsG, PV.cells]
abbrev rxSt (bs : List (Option E)) (e : E) (es : List E) (i : Int) : St := rexpand_t3 (.pv (.slc (bsE bs))) (.pv (.slc (bsG bs))) (.ptr none 3 0) (.ptr none 6 0) (.ptr none 8 0) (I i) [⟨[(3, emem e), (6, zE), (8, outE 44 e es)], [(44, rowT (eps es) 4)]⟩]
def RxGoal (bs : List (Option E)) (e : E) (es : List E) (o : Option E) : Prop :=
  leaveR PP rexpand_rs 0 (thenC (blockC 0 (rexpand_X3 (rxSt bs e es e.args.length))) (acodeX PP RR rexpand_L rexpand_k3)) = some (opAV o, [])
theorem rexpand_loop {bs : List (Option E)} {e : E} (hl : ∀ a ∈ e.args, RR 49 [a.av, .pv (.slc (bsE bs)), .pv (.slc (bsG bs))] [] = some (opAV (expE bs a), [])) (hn : e.args.length ≤ 1000000)
    (hend : ∀ us : List E, us.length = e.args.length → (∀ u ∈ us, parts u ≤ 1000) → RxGoal bs e us (expOp bs e.op e.n e.s us)) : ∀ (xs : List E) (i : Nat) (es : List E) (st : St), e.args.drop i = xs → i ≤ e.args.length → es.length = i → (∀ u ∈ es, parts u ≤ 1000) →
    St.forget (rexpand_h.at 3) st = rxSt bs e es i → leaveR PP rexpand_rs 0 (thenC (blockC 0 (rexpand_L 3 st)) (acodeX PP RR rexpand_L rexpand_k3)) = some (opAV (match expL bs xs with | some us => expOp bs e.op e.n e.s (es ++ us) | none => none), [])
  | [], i, es, st, h, hle, hts, hq, hst => by
    have he : i = e.args.length := by have := drop_nil' h; omega
    subst he
    rw [rexpand_q3, hst]
    simp only [expL, List.append_nil]
    exact hend es hts hq
  | x :: xs, i, es, st, h, hle, hts, hq, hst => by
    obtain ⟨hlt, hi, hd⟩ := drop_cons h
    have hlt' : (i : Int) < e.args.length := by omega
    have hx := hl x (List.mem_of_getElem? hi)
    rw [rexpand_q3, hst]
    cases hu : expE bs x with
    | none =>
      rw [hu] at hx
      simp only [opAV, Option.getD_none, Option.isSome_none, z_av] at hx
      simp only [av_e x] at hx
      simp only [expL, hu, opAV, Option.getD_none, Option.isSome_none, z_av]
      rw [rexpand_e3]; simp only [rexpand_l3, rexpand_b, rexpand_rs, Try.f49, index_E hi, hlt', hx, F.EVT, Am.splice, Am.enterN, Am.freshMem, Am.cA, Am.cB, Am.cK, Am.cL, Am.cS, Am.cT, Am.cE, Am.aresults, Am.aresult, Am.codeKey, Nat.reduceAdd, Nat.reduceLeDiff, Nat.reduceBEq, Nat.reduceEqDiff, reduceIte, reduceCtorEq, Nat.reduceSub, Int.reduceBEq, Int.reduceSub, Int.reduceAdd, Int.reduceToNat, Int.reduceLT, Int.reduceLE, Int.reduceEq, Int.reduceNeg, Int.reduceBNe, Int.reduceGT, Int.reduceGE, Nat.reduceMul, Nat.reduceMod, Nat.reduceDiv]
      try rfl
    | some u =>
      rw [hu] at hx
      simp only [opAV, Option.getD_some, Option.isSome_some, av_e x, av_e u] at hx
      have hb : ((eps es).length + 1) * 56 ≤ 140737488355328 := by rw [eps_len]; omega
      have hap := eps_snoc es u
      have hg : (match expL bs (x :: xs) with | some us => expOp bs e.op e.n e.s (es ++ us) | none => none) = (match expL bs xs with | some us => expOp bs e.op e.n e.s ((es ++ [u]) ++ us) | none => none) := by
        simp only [expL, hu]
        cases expL bs xs <;> simp
      rw [hg]
      generalize hr : (some (opAV (match expL bs xs with | some us => expOp bs e.op e.n e.s ((es ++ [u]) ++ us) | none => none), ([] : List Mem))) = r
      rw [rexpand_e3]; simp only [rexpand_l3, rexpand_b, rexpand_rs, Try.f49, index_E hi, hlt', hx, hb, hap, wrapS hlt (show e.args.length ≤ LIM by simp only [LIM]; omega), F.EVT, Am.splice, Am.enterN, Am.freshMem, Am.cA, Am.cB, Am.cK, Am.cL, Am.cS, Am.cT, Am.cE, Am.aresults, Am.aresult, Am.codeKey, Nat.reduceAdd, Nat.reduceLeDiff, Nat.reduceBEq, Nat.reduceEqDiff, reduceIte, reduceCtorEq, Nat.reduceSub, Int.reduceBEq, Int.reduceSub, Int.reduceAdd, Int.reduceToNat, Int.reduceLT, Int.reduceLE, Int.reduceEq, Int.reduceNeg, Int.reduceBNe, Int.reduceGT, Int.reduceGE, Nat.reduceMul, Nat.reduceMod, Nat.reduceDiv]
      rw [← hr]
      refine rexpand_loop hl hn hend xs (i + 1) (es ++ [u]) _ hd hlt (by simp [hts]) ?_ (by delta rxSt outE; generalize eps (es ++ [u]) = E; cases E <;> kernel_rfl)
      intro w hw
      rcases List.mem_append.1 hw with hw | hw
      · exact hq w hw
      · simp only [List.mem_singleton] at hw; subst hw; exact expE_parts hu
theorem rx_op {bs : List (Option E)} {e : E} {us : List E} (hc : ¬ (e.op = 22 ∧ 0 ≤ e.n ∧ e.n < bs.length)) (hb : partsL us ≤ 10000000) : RxGoal bs e us (expOp bs e.op e.n e.s us) := by
  unfold RxGoal expOp capE
  rw [if_neg hc, parts_mk]
  have hw := rParts_ok (.mk e.op e.n e.s us) (by rw [parts_mk]; omega)
  rw [av_mk, parts_mk, show us.map E.pv = eps us from rfl] at hw
  have hcase : (e.op == 22) = false ∨ ((e.op == 22) = true ∧ ¬ e.n ≥ 0) ∨ ((e.op == 22) = true ∧ e.n ≥ 0 ∧ ¬ e.n < (bs.length : Int)) := by
    by_cases h1 : e.op = 22
    · by_cases h2 : e.n ≥ 0
      · exact .inr (.inr ⟨by simpa using h1, h2, fun q => hc ⟨h1, h2, q⟩⟩)
      · exact .inr (.inl ⟨by simpa using h1, h2⟩)
    · exact .inl (beq_no h1)
  by_cases hp : partsL us + 1 > 1000
  · rw [if_pos hp]
    have hgt : ((partsL us + 1 : Nat) : Int) > 1000 := by omega
    generalize ((partsL us + 1 : Nat) : Int) = k at hw hgt
    simp only [opAV, Option.getD_none, Option.isSome_none, z_av]
    rcases hcase with h1 | ⟨h1, h2⟩ | ⟨h1, h2, h3⟩
    · rw [rexpand_e3]; simp only [rexpand_l3, rexpand_b, rexpand_rs, Try.f49, Int.lt_irrefl, F.EVT, Am.splice, Am.enterN, Am.freshMem, Am.cA, Am.cB, Am.cK, Am.cL, Am.cS, Am.cT, Am.cE, Am.aresults, Am.aresult, Am.codeKey, Nat.reduceAdd, Nat.reduceLeDiff, Nat.reduceBEq, Nat.reduceEqDiff, reduceIte, reduceCtorEq, Nat.reduceSub, Int.reduceBEq, Int.reduceSub, Int.reduceAdd, Int.reduceToNat, Int.reduceLT, Int.reduceLE, Int.reduceEq, Int.reduceNeg, Int.reduceBNe, Int.reduceGT, Int.reduceGE, Nat.reduceMul, Nat.reduceMod, Nat.reduceDiv]
      simp only [rexpand_k3, rexpand_b, rexpand_rs, Try.f49, h1, hw, hgt, F.EVT, Am.splice, Am.enterN, Am.freshMem, Am.cA, Am.cB, Am.cK, Am.cL, Am.cS, Am.cT, Am.cE, Am.aresults, Am.aresult, Am.codeKey, Nat.reduceAdd, Nat.reduceLeDiff, Nat.reduceBEq, Nat.reduceEqDiff, reduceIte, reduceCtorEq, Nat.reduceSub, Int.reduceBEq, Int.reduceSub, Int.reduceAdd, Int.reduceToNat, Int.reduceLT, Int.reduceLE, Int.reduceEq, Int.reduceNeg, Int.reduceBNe, Int.reduceGT, Int.reduceGE, Nat.reduceMul, Nat.reduceMod, Nat.reduceDiv]
      try rfl
    · rw [rexpand_e3]; simp only [rexpand_l3, rexpand_b, rexpand_rs, Try.f49, Int.lt_irrefl, F.EVT, Am.splice, Am.enterN, Am.freshMem, Am.cA, Am.cB, Am.cK, Am.cL, Am.cS, Am.cT, Am.cE, Am.aresults, Am.aresult, Am.codeKey, Nat.reduceAdd, Nat.reduceLeDiff, Nat.reduceBEq, Nat.reduceEqDiff, reduceIte, reduceCtorEq, Nat.reduceSub, Int.reduceBEq, Int.reduceSub, Int.reduceAdd, Int.reduceToNat, Int.reduceLT, Int.reduceLE, Int.reduceEq, Int.reduceNeg, Int.reduceBNe, Int.reduceGT, Int.reduceGE, Nat.reduceMul, Nat.reduceMod, Nat.reduceDiv]
      simp only [rexpand_k3, rexpand_b, rexpand_rs, Try.f49, h1, h2, hw, hgt, F.EVT, Am.splice, Am.enterN, Am.freshMem, Am.cA, Am.cB, Am.cK, Am.cL, Am.cS, Am.cT, Am.cE, Am.aresults, Am.aresult, Am.codeKey, Nat.reduceAdd, Nat.reduceLeDiff, Nat.reduceBEq, Nat.reduceEqDiff, reduceIte, reduceCtorEq, Nat.reduceSub, Int.reduceBEq, Int.reduceSub, Int.reduceAdd, Int.reduceToNat, Int.reduceLT, Int.reduceLE, Int.reduceEq, Int.reduceNeg, Int.reduceBNe, Int.reduceGT, Int.reduceGE, Nat.reduceMul, Nat.reduceMod, Nat.reduceDiv]
      try rfl
    · rw [rexpand_e3]; simp only [rexpand_l3, rexpand_b, rexpand_rs, Try.f49, Int.lt_irrefl, F.EVT, Am.splice, Am.enterN, Am.freshMem, Am.cA, Am.cB, Am.cK, Am.cL, Am.cS, Am.cT, Am.cE, Am.aresults, Am.aresult, Am.codeKey, Nat.reduceAdd, Nat.reduceLeDiff, Nat.reduceBEq, Nat.reduceEqDiff, reduceIte, reduceCtorEq, Nat.reduceSub, Int.reduceBEq, Int.reduceSub, Int.reduceAdd, Int.reduceToNat, Int.reduceLT, Int.reduceLE, Int.reduceEq, Int.reduceNeg, Int.reduceBNe, Int.reduceGT, Int.reduceGE, Nat.reduceMul, Nat.reduceMod, Nat.reduceDiv]
      simp only [rexpand_k3, rexpand_b, rexpand_rs, Try.f49, h1, h2, h3, bsE_len, hw, hgt, F.EVT, Am.splice, Am.enterN, Am.freshMem, Am.cA, Am.cB, Am.cK, Am.cL, Am.cS, Am.cT, Am.cE, Am.aresults, Am.aresult, Am.codeKey, Nat.reduceAdd, Nat.reduceLeDiff, Nat.reduceBEq, Nat.reduceEqDiff, reduceIte, reduceCtorEq, Nat.reduceSub, Int.reduceBEq, Int.reduceSub, Int.reduceAdd, Int.reduceToNat, Int.reduceLT, Int.reduceLE, Int.reduceEq, Int.reduceNeg, Int.reduceBNe, Int.reduceGT, Int.reduceGE, Nat.reduceMul, Nat.reduceMod, Nat.reduceDiv]
      try rfl
  · rw [if_neg hp]
    have hgt : ¬ ((partsL us + 1 : Nat) : Int) > 1000 := by omega
    generalize ((partsL us + 1 : Nat) : Int) = k at hw hgt
    simp only [opAV, Option.getD_some, Option.isSome_some, av_mk]
    rcases hcase with h1 | ⟨h1, h2⟩ | ⟨h1, h2, h3⟩
    · rw [rexpand_e3]; simp only [rexpand_l3, rexpand_b, rexpand_rs, Try.f49, Int.lt_irrefl, F.EVT, Am.splice, Am.enterN, Am.freshMem, Am.cA, Am.cB, Am.cK, Am.cL, Am.cS, Am.cT, Am.cE, Am.aresults, Am.aresult, Am.codeKey, Nat.reduceAdd, Nat.reduceLeDiff, Nat.reduceBEq, Nat.reduceEqDiff, reduceIte, reduceCtorEq, Nat.reduceSub, Int.reduceBEq, Int.reduceSub, Int.reduceAdd, Int.reduceToNat, Int.reduceLT, Int.reduceLE, Int.reduceEq, Int.reduceNeg, Int.reduceBNe, Int.reduceGT, Int.reduceGE, Nat.reduceMul, Nat.reduceMod, Nat.reduceDiv]
      simp only [rexpand_k3, rexpand_b, rexpand_rs, Try.f49, h1, hw, hgt, F.EVT, Am.splice, Am.enterN, Am.freshMem, Am.cA, Am.cB, Am.cK, Am.cL, Am.cS, Am.cT, Am.cE, Am.aresults, Am.aresult, Am.codeKey, Nat.reduceAdd, Nat.reduceLeDiff, Nat.reduceBEq, Nat.reduceEqDiff, reduceIte, reduceCtorEq, Nat.reduceSub, Int.reduceBEq, Int.reduceSub, Int.reduceAdd, Int.reduceToNat, Int.reduceLT, Int.reduceLE, Int.reduceEq, Int.reduceNeg, Int.reduceBNe, Int.reduceGT, Int.reduceGE, Nat.reduceMul, Nat.reduceMod, Nat.reduceDiv]
      try rfl
    · rw [rexpand_e3]; simp only [rexpand_l3, rexpand_b, rexpand_rs, Try.f49, Int.lt_irrefl, F.EVT, Am.splice, Am.enterN, Am.freshMem, Am.cA, Am.cB, Am.cK, Am.cL, Am.cS, Am.cT, Am.cE, Am.aresults, Am.aresult, Am.codeKey, Nat.reduceAdd, Nat.reduceLeDiff, Nat.reduceBEq, Nat.reduceEqDiff, reduceIte, reduceCtorEq, Nat.reduceSub, Int.reduceBEq, Int.reduceSub, Int.reduceAdd, Int.reduceToNat, Int.reduceLT, Int.reduceLE, Int.reduceEq, Int.reduceNeg, Int.reduceBNe, Int.reduceGT, Int.reduceGE, Nat.reduceMul, Nat.reduceMod, Nat.reduceDiv]
      simp only [rexpand_k3, rexpand_b, rexpand_rs, Try.f49, h1, h2, hw, hgt, F.EVT, Am.splice, Am.enterN, Am.freshMem, Am.cA, Am.cB, Am.cK, Am.cL, Am.cS, Am.cT, Am.cE, Am.aresults, Am.aresult, Am.codeKey, Nat.reduceAdd, Nat.reduceLeDiff, Nat.reduceBEq, Nat.reduceEqDiff, reduceIte, reduceCtorEq, Nat.reduceSub, Int.reduceBEq, Int.reduceSub, Int.reduceAdd, Int.reduceToNat, Int.reduceLT, Int.reduceLE, Int.reduceEq, Int.reduceNeg, Int.reduceBNe, Int.reduceGT, Int.reduceGE, Nat.reduceMul, Nat.reduceMod, Nat.reduceDiv]
      try rfl
    · rw [rexpand_e3]; simp only [rexpand_l3, rexpand_b, rexpand_rs, Try.f49, Int.lt_irrefl, F.EVT, Am.splice, Am.enterN, Am.freshMem, Am.cA, Am.cB, Am.cK, Am.cL, Am.cS, Am.cT, Am.cE, Am.aresults, Am.aresult, Am.codeKey, Nat.reduceAdd, Nat.reduceLeDiff, Nat.reduceBEq, Nat.reduceEqDiff, reduceIte, reduceCtorEq, Nat.reduceSub, Int.reduceBEq, Int.reduceSub, Int.reduceAdd, Int.reduceToNat, Int.reduceLT, Int.reduceLE, Int.reduceEq, Int.reduceNeg, Int.reduceBNe, Int.reduceGT, Int.reduceGE, Nat.reduceMul, Nat.reduceMod, Nat.reduceDiv]
      simp only [rexpand_k3, rexpand_b, rexpand_rs, Try.f49, h1, h2, h3, bsE_len, hw, hgt, F.EVT, Am.splice, Am.enterN, Am.freshMem, Am.cA, Am.cB, Am.cK, Am.cL, Am.cS, Am.cT, Am.cE, Am.aresults, Am.aresult, Am.codeKey, Nat.reduceAdd, Nat.reduceLeDiff, Nat.reduceBEq, Nat.reduceEqDiff, reduceIte, reduceCtorEq, Nat.reduceSub, Int.reduceBEq, Int.reduceSub, Int.reduceAdd, Int.reduceToNat, Int.reduceLT, Int.reduceLE, Int.reduceEq, Int.reduceNeg, Int.reduceBNe, Int.reduceGT, Int.reduceGE, Nat.reduceMul, Nat.reduceMod, Nat.reduceDiv]
      try rfl
theorem rx_call {bs : List (Option E)} {e : E} {us : List E} (h22 : e.op = 22) (h0 : 0 ≤ e.n) (hlt : e.n < bs.length) (hus : ∀ u ∈ us, parts u ≤ 1000) (hbs : ∀ b, some b ∈ bs → parts b ≤ 1000) : RxGoal bs e us (expOp bs e.op e.n e.s us) := by
  unfold RxGoal expOp
  rw [if_pos ⟨h22, h0, hlt⟩]
  have hl : e.n.toNat < bs.length := by omega
  have hg : bs[e.n.toNat]? = some bs[e.n.toNat] := List.getElem?_eq_getElem hl
  have hm := List.getElem_mem hl
  have hge : e.n ≥ 0 := h0
  rw [hg]
  generalize bs[e.n.toNat] = o at hg hm
  have hi := index_bE h0 hg
  have hi2 := index_bG h0 hg
  cases o with
  | none =>
    simp only [opAV, Option.getD_none, Option.isSome_none, z_av]
    simp only [Option.isSome_none] at hi2
    rw [rexpand_e3]; simp only [rexpand_l3, rexpand_b, rexpand_rs, Try.f49, Int.lt_irrefl, F.EVT, Am.splice, Am.enterN, Am.freshMem, Am.cA, Am.cB, Am.cK, Am.cL, Am.cS, Am.cT, Am.cE, Am.aresults, Am.aresult, Am.codeKey, Nat.reduceAdd, Nat.reduceLeDiff, Nat.reduceBEq, Nat.reduceEqDiff, reduceIte, reduceCtorEq, Nat.reduceSub, Int.reduceBEq, Int.reduceSub, Int.reduceAdd, Int.reduceToNat, Int.reduceLT, Int.reduceLE, Int.reduceEq, Int.reduceNeg, Int.reduceBNe, Int.reduceGT, Int.reduceGE, Nat.reduceMul, Nat.reduceMod, Nat.reduceDiv]
    simp only [rexpand_k3, rexpand_b, rexpand_rs, Try.f49, h22, hge, hlt, bsE_len, hi2, F.EVT, Am.splice, Am.enterN, Am.freshMem, Am.cA, Am.cB, Am.cK, Am.cL, Am.cS, Am.cT, Am.cE, Am.aresults, Am.aresult, Am.codeKey, Nat.reduceAdd, Nat.reduceLeDiff, Nat.reduceBEq, Nat.reduceEqDiff, reduceIte, reduceCtorEq, Nat.reduceSub, Int.reduceBEq, Int.reduceSub, Int.reduceAdd, Int.reduceToNat, Int.reduceLT, Int.reduceLE, Int.reduceEq, Int.reduceNeg, Int.reduceBNe, Int.reduceGT, Int.reduceGE, Nat.reduceMul, Nat.reduceMod, Nat.reduceDiv]
    try rfl
  | some b =>
    have hpb := hbs b hm
    change _ = some (opAV (capE ((putE 4 us b).getD E.z)), [])
    simp only [Option.getD_some, Option.isSome_some] at hi hi2
    have hput := rput_ok (op := 4) (l := us) (fun x hx => by have := hus x hx; omega) b (by omega)
    have hxp : parts ((putE 4 us b).getD E.z) ≤ 1000000 := by
      cases hq : putE 4 us b with
      | none => simp only [Option.getD_none]; have : parts E.z = 1 := rfl; omega
      | some x =>
        simp only [Option.getD_some]
        have h1 := putE_parts (K := 1000) (by omega) hus b x hq
        have h2 : parts b * 1000 ≤ 1000 * 1000 := Nat.mul_le_mul_right 1000 hpb
        omega
    simp only [opAV] at hput
    generalize (putE 4 us b).isSome = ok at hput
    generalize (putE 4 us b).getD E.z = x at hput hxp ⊢
    have hw := rParts_ok x (by omega)
    simp only [av_e b, av_e x, show slE us = .pv (.slc (eps us)) from rfl] at hput hw
    unfold capE
    by_cases hp : parts x > 1000
    · rw [if_pos hp]
      have hgt : (parts x : Int) > 1000 := by omega
      simp only [opAV, Option.getD_none, Option.isSome_none, z_av]
      rw [rexpand_e3]; simp only [rexpand_l3, rexpand_b, rexpand_rs, Try.f49, Int.lt_irrefl, F.EVT, Am.splice, Am.enterN, Am.freshMem, Am.cA, Am.cB, Am.cK, Am.cL, Am.cS, Am.cT, Am.cE, Am.aresults, Am.aresult, Am.codeKey, Nat.reduceAdd, Nat.reduceLeDiff, Nat.reduceBEq, Nat.reduceEqDiff, reduceIte, reduceCtorEq, Nat.reduceSub, Int.reduceBEq, Int.reduceSub, Int.reduceAdd, Int.reduceToNat, Int.reduceLT, Int.reduceLE, Int.reduceEq, Int.reduceNeg, Int.reduceBNe, Int.reduceGT, Int.reduceGE, Nat.reduceMul, Nat.reduceMod, Nat.reduceDiv]
      simp only [rexpand_k3, rexpand_b, rexpand_rs, Try.f49, h22, hge, hlt, bsE_len, hi, hi2, hput, hw, hgt, F.EVT, Am.splice, Am.enterN, Am.freshMem, Am.cA, Am.cB, Am.cK, Am.cL, Am.cS, Am.cT, Am.cE, Am.aresults, Am.aresult, Am.codeKey, Nat.reduceAdd, Nat.reduceLeDiff, Nat.reduceBEq, Nat.reduceEqDiff, reduceIte, reduceCtorEq, Nat.reduceSub, Int.reduceBEq, Int.reduceSub, Int.reduceAdd, Int.reduceToNat, Int.reduceLT, Int.reduceLE, Int.reduceEq, Int.reduceNeg, Int.reduceBNe, Int.reduceGT, Int.reduceGE, Nat.reduceMul, Nat.reduceMod, Nat.reduceDiv]
      try rfl
    · rw [if_neg hp]
      have hgt : ¬ (parts x : Int) > 1000 := by omega
      simp only [opAV, Option.getD_some, Option.isSome_some, av_e x]
      rw [rexpand_e3]; simp only [rexpand_l3, rexpand_b, rexpand_rs, Try.f49, Int.lt_irrefl, F.EVT, Am.splice, Am.enterN, Am.freshMem, Am.cA, Am.cB, Am.cK, Am.cL, Am.cS, Am.cT, Am.cE, Am.aresults, Am.aresult, Am.codeKey, Nat.reduceAdd, Nat.reduceLeDiff, Nat.reduceBEq, Nat.reduceEqDiff, reduceIte, reduceCtorEq, Nat.reduceSub, Int.reduceBEq, Int.reduceSub, Int.reduceAdd, Int.reduceToNat, Int.reduceLT, Int.reduceLE, Int.reduceEq, Int.reduceNeg, Int.reduceBNe, Int.reduceGT, Int.reduceGE, Nat.reduceMul, Nat.reduceMod, Nat.reduceDiv]
      simp only [rexpand_k3, rexpand_b, rexpand_rs, Try.f49, h22, hge, hlt, bsE_len, hi, hi2, hput, hw, hgt, F.EVT, Am.splice, Am.enterN, Am.freshMem, Am.cA, Am.cB, Am.cK, Am.cL, Am.cS, Am.cT, Am.cE, Am.aresults, Am.aresult, Am.codeKey, Nat.reduceAdd, Nat.reduceLeDiff, Nat.reduceBEq, Nat.reduceEqDiff, reduceIte, reduceCtorEq, Nat.reduceSub, Int.reduceBEq, Int.reduceSub, Int.reduceAdd, Int.reduceToNat, Int.reduceLT, Int.reduceLE, Int.reduceEq, Int.reduceNeg, Int.reduceBNe, Int.reduceGT, Int.reduceGE, Nat.reduceMul, Nat.reduceMod, Nat.reduceDiv]
      try rfl
end Go.Proofs.Ytjbmdfdgeioecaa.X
