/- Inlining, by the code. -/
import Derived.Test.YtjbmdfdgeioecaaN4
import Derived.Test.YtjbmdfdgeioecaaN35
import Derived.Test.YtjbmdfdgeioecaaN39
namespace Go.Proofs.Ytjbmdfdgeioecaa.X
open Go.Proofs.Ytjbmdfdgeioecaa.Am Go.Proofs.Ytjbmdfdgeioecaa.F
set_option linter.unusedVariables false
set_option linter.unusedSimpArgs false
set_option maxRecDepth 100000
set_option maxHeartbeats 1000000
def capE (x : E) : Option E := if parts x > 1000 then none else some x
def expOp (bs : List (Option E)) (op n : Int) (s : ByteArray) (us : List E) : Option E :=
  if op = 22 ∧ 0 ≤ n ∧ n < bs.length then (match bs[n.toNat]? with | some (some b) => capE ((putE 4 us b).getD E.z) | _ => none) else capE (.mk op n s us)
mutual
def expE (bs : List (Option E)) : E → Option E | .mk op n s args => match expL bs args with | some us => expOp bs op n s us | none => none
def expL (bs : List (Option E)) : List E → Option (List E)
  | [] => some []
  | a :: es => match expE bs a with
    | some u => match expL bs es with | some us => some (u :: us) | none => none
    | none => none
end
theorem expE_eq (bs : List (Option E)) (e : E) : expE bs e = match expL bs e.args with | some us => expOp bs e.op e.n e.s us | none => none := by cases e; simp only [expE, E.args, E.op, E.n, E.s]
theorem capE_parts {x y : E} (h : capE x = some y) : parts y ≤ 1000 := by
  unfold capE at h
  by_cases hp : parts x > 1000
  · rw [if_pos hp] at h; cases h
  · rw [if_neg hp] at h; cases h; omega
theorem expE_parts {bs : List (Option E)} {e x : E} (h : expE bs e = some x) : parts x ≤ 1000 := by
  rw [expE_eq] at h
  cases hl : expL bs e.args with
  | none => rw [hl] at h; cases h
  | some us =>
    rw [hl] at h
    have h : expOp bs e.op e.n e.s us = some x := h
    unfold expOp at h
    by_cases hc : e.op = 22 ∧ 0 ≤ e.n ∧ e.n < bs.length
    · rw [if_pos hc] at h
      cases hb : bs[e.n.toNat]? with
      | none => rw [hb] at h; cases h
      | some o =>
        rw [hb] at h
        cases o with
        | none => cases h
        | some b => exact capE_parts h
    · rw [if_neg hc] at h; exact capE_parts h
def bodyPV (o : Option E) : PV := .agg [.int .i64 (o.getD E.z).op, .int .i64 (o.getD E.z).n, .str (o.getD E.z).s, .slc ((o.getD E.z).args.map E.pv), .bool o.isSome]
def bodyAV (o : Option E) : AV := .agg [.pv (.int .i64 (o.getD E.z).op), .pv (.int .i64 (o.getD E.z).n), .pv (.str (o.getD E.z).s), .pv (.slc ((o.getD E.z).args.map E.pv)), .pv (.bool o.isSome)]
theorem bodyAV_none : bodyAV none = .agg [.pv (.int .i64 0), .pv (.int .i64 0), .pv (.str ByteArray.empty), .pv (.slc []), .pv (.bool false)] := rfl
theorem bodyAV_some (e : E) : bodyAV (some e) = .agg [.pv (.int .i64 e.op), .pv (.int .i64 e.n), .pv (.str e.s), .pv (.slc (e.args.map E.pv)), .pv (.bool true)] := rfl
theorem index_body {l : List (Option E)} {n : Int} {o : Option E} (h0 : 0 ≤ n) (h : l[n.toNat]? = some o) : indexC 5 (.pv (.slc (l.map bodyPV))) n = some (.eptr [.int .i64 (o.getD E.z).op, .int .i64 (o.getD E.z).n, .str (o.getD E.z).s, .slc ((o.getD E.z).args.map E.pv), .bool o.isSome]) := by
  simp [indexC, AV.slc?, h, h0, bodyPV, PV.cells]
theorem walkO_0 (o n : Int) (s : ByteArray) (es : List E) (m0 : Mem) (hc : partsL es ≤ 10000000) (hv : varAt [m0] 0 10 = some [I 0]) : RR 52 [ownE o n s (.own (some 0) 37 (eps es)), f85] [m0] = some (.tup [], setVar [m0] 0 10 [I (partsL es + 1 : Nat)]) := by
  have := walkO_ok o n s es m0 0 (by omega) hv
  rwa [show 0 + 1 + partsL es = partsL es + 1 by omega] at this
theorem walkC_0 (e : E) (m0 : Mem) (hc : parts e ≤ 10000000) (hv : varAt [m0] 0 10 = some [I 0]) : RR 52 [e.av, f85] [m0] = some (.tup [], setVar [m0] 0 10 [I (parts e : Nat)]) := by
  have := walkC_ok e m0 [] 0 (by omega) hv
  rwa [show 0 + parts e = parts e by omega] at this
abbrev zB : List AV := [I 0, I 0, .pv (.str ByteArray.empty), .full [], B false]
abbrev slB (bs : List (Option E)) : AV := .pv (.slc (bs.map bodyPV))
abbrev inSt (bs : List (Option E)) (e : E) (es : List E) (i : Int) : St := inline_t3 (slB bs) (.ptr none 2 0) (.ptr none 4 0) (.ptr none 5 0) (slE e.args) (I e.args.length) (I i) [⟨[(2, emem e), (4, zB), (5, outE 37 e es)], [(37, rowT (eps es) 4)]⟩]
def InGoal (bs : List (Option E)) (e : E) (es : List E) (o : Option E) : Prop :=
  leaveR PP inline_rs 0 (thenC (blockC 0 (inline_X3 (inSt bs e es e.args.length))) (acodeX PP RR [] inline_L inline_k3)) = some (bodyAV o, [])
theorem inline_loop {bs : List (Option E)} {e : E} (hl : ∀ a ∈ e.args, RR 48 [a.av, slB bs] [] = some (bodyAV (expE bs a), [])) (hn : e.args.length ≤ 1000000)
    (hend : ∀ us : List E, us.length = e.args.length → (∀ u ∈ us, parts u ≤ 1000) → InGoal bs e us (expOp bs e.op e.n e.s us)) : ∀ (xs : List E) (i : Nat) (es : List E) (st : St), e.args.drop i = xs → i ≤ e.args.length → es.length = i → (∀ u ∈ es, parts u ≤ 1000) →
    St.forget (inline_h.at 3) st = inSt bs e es i → leaveR PP inline_rs 0 (thenC (blockC 0 (inline_L 3 st)) (acodeX PP RR [] inline_L inline_k3)) = some (bodyAV (match expL bs xs with | some us => expOp bs e.op e.n e.s (es ++ us) | none => none), [])
  | [], i, es, st, h, hle, hts, hq, hst => by
    have he : i = e.args.length := by have := drop_nil' h; omega
    subst he
    rw [inline_q3, hst]
    simp only [expL, List.append_nil]
    exact hend es hts hq
  | x :: xs, i, es, st, h, hle, hts, hq, hst => by
    obtain ⟨hlt, hi, hd⟩ := drop_cons h
    have hlt' : (i : Int) < e.args.length := by omega
    have hx := hl x (List.mem_of_getElem? hi)
    rw [inline_q3, hst]
    cases hu : expE bs x with
    | none =>
      rw [hu, bodyAV_none] at hx
      simp only [E.av] at hx
      simp only [expL, hu, bodyAV_none]
      rw [inline_e3]; simp only [inline_l3, inline_b, inline_rs, Try.f48, index_E hi, hlt', hx, F.EVT, Am.splice, Am.enterN, Am.freshMem, Am.cA, Am.cB, Am.cK, Am.cL, Am.cS, Am.cT, Am.cE, Am.aresults, Am.aresult, Am.codeKey, Am.frzTop, Am.spliceP, Nat.reduceAdd, Nat.reduceLeDiff, Nat.reduceBEq, Nat.reduceEqDiff, reduceIte, reduceCtorEq, Nat.reduceSub, Int.reduceBEq, Int.reduceSub, Int.reduceAdd, Int.reduceToNat, Int.reduceLT, Int.reduceLE, Int.reduceEq, Int.reduceNeg, Int.reduceBNe, Int.reduceGT, Int.reduceGE, Nat.reduceMul, Nat.reduceMod, Nat.reduceDiv]
      try rfl
    | some u =>
      rw [hu, bodyAV_some] at hx
      simp only [E.av] at hx
      have hb : ((eps es).length + 1) * 56 ≤ 140737488355328 := by rw [eps_len]; omega
      have hap := eps_snoc es u
      have hg : (match expL bs (x :: xs) with | some us => expOp bs e.op e.n e.s (es ++ us) | none => none) = (match expL bs xs with | some us => expOp bs e.op e.n e.s ((es ++ [u]) ++ us) | none => none) := by
        simp only [expL, hu]
        cases expL bs xs <;> simp
      rw [hg]
      generalize hr : (some (bodyAV (match expL bs xs with | some us => expOp bs e.op e.n e.s ((es ++ [u]) ++ us) | none => none), ([] : List Mem))) = r
      rw [inline_e3]; simp only [inline_l3, inline_b, inline_rs, Try.f48, index_E hi, hlt', hx, hb, hap, wrapS hlt (show e.args.length ≤ LIM by simp only [LIM]; omega), F.EVT, Am.splice, Am.enterN, Am.freshMem, Am.cA, Am.cB, Am.cK, Am.cL, Am.cS, Am.cT, Am.cE, Am.aresults, Am.aresult, Am.codeKey, Am.frzTop, Am.spliceP, Nat.reduceAdd, Nat.reduceLeDiff, Nat.reduceBEq, Nat.reduceEqDiff, reduceIte, reduceCtorEq, Nat.reduceSub, Int.reduceBEq, Int.reduceSub, Int.reduceAdd, Int.reduceToNat, Int.reduceLT, Int.reduceLE, Int.reduceEq, Int.reduceNeg, Int.reduceBNe, Int.reduceGT, Int.reduceGE, Nat.reduceMul, Nat.reduceMod, Nat.reduceDiv]
      rw [← hr]
      refine inline_loop hl hn hend xs (i + 1) (es ++ [u]) _ hd hlt (by simp [hts]) ?_ (by delta inSt outE; generalize eps (es ++ [u]) = E; cases E <;> kernel_rfl)
      intro w hw
      rcases List.mem_append.1 hw with hw | hw
      · exact hq w hw
      · simp only [List.mem_singleton] at hw; subst hw; exact expE_parts hu
end Go.Proofs.Ytjbmdfdgeioecaa.X
