/- Inlining, by the code: the end of one expression. -/
import Derived.Test.YtjbmdfdgeioecaaN36
import Derived.Test.YtjbmdfdgeioecaaN40
namespace Go.Proofs.Ytjbmdfdgeioecaa.X
open Go.Proofs.Ytjbmdfdgeioecaa.Am Go.Proofs.Ytjbmdfdgeioecaa.F
set_option linter.unusedVariables false
set_option linter.unusedSimpArgs false
set_option maxRecDepth 100000
set_option maxHeartbeats 1000000
theorem mk_nilE (s : Nat) : mkOwn s (eps []) = .full [] := rfl
theorem mk_consE (s : Nat) (u : E) (us : List E) : mkOwn s (eps (u :: us)) = .own none s (eps (u :: us)) := rfl
theorem parts_mk (o n : Int) (s : ByteArray) (es : List E) : parts (.mk o n s es) = partsL es + 1 := by simp only [parts]
theorem partsL_le {K : Nat} : ∀ {us : List E}, (∀ u ∈ us, parts u ≤ K) → partsL us ≤ us.length * K
  | [], _ => by simp [partsL]
  | u :: us, h => by
    have h1 := h u List.mem_cons_self
    have h2 := partsL_le (us := us) (fun x hx => h x (List.mem_cons_of_mem _ hx))
    simp only [partsL, List.length_cons, Nat.add_mul]
    omega
theorem bodyAV_mk (o n : Int) (s : ByteArray) (es : List E) : bodyAV (some (.mk o n s es)) = .agg [.pv (.int .i64 o), .pv (.int .i64 n), .pv (.str s), .pv (.slc (es.map E.pv)), .pv (.bool true)] := rfl
theorem in_nil {bs : List (Option E)} {e : E} (h22 : e.op ≠ 22) : InGoal bs e [] (expOp bs e.op e.n e.s []) := by
  unfold InGoal expOp capE
  rw [if_neg (fun q => h22 q.1)]
  have hp : parts (.mk e.op e.n e.s []) = 1 := rfl
  rw [hp, if_neg (by omega), bodyAV_mk]
  have hw : ∀ m0 : Mem, varAt [m0] 0 10 = some [I 0] → RR 52 [ownE e.op e.n e.s (.full []), f85] [m0] = some (.tup [], setVar [m0] 0 10 [I ((0 + 1 : Nat) : Int)]) := fun m0 hv => walkF_ok e.op e.n e.s m0 0 (by omega) hv
  have hgt : ¬ (((0 + 1 : Nat) : Int) > 1000) := by omega
  generalize ((0 + 1 : Nat) : Int) = k at hw hgt
  rw [inline_e3]; simp only [inline_l3, inline_b, inline_rs, Try.f48, Int.lt_irrefl, F.EVT, Am.splice, Am.enterN, Am.freshMem, Am.cA, Am.cB, Am.cK, Am.cL, Am.cS, Am.cT, Am.cE, Am.aresults, Am.aresult, Am.codeKey, Am.frzTop, Am.spliceP, Nat.reduceAdd, Nat.reduceLeDiff, Nat.reduceBEq, Nat.reduceEqDiff, reduceIte, reduceCtorEq, Nat.reduceSub, Int.reduceBEq, Int.reduceSub, Int.reduceAdd, Int.reduceToNat, Int.reduceLT, Int.reduceLE, Int.reduceEq, Int.reduceNeg, Int.reduceBNe, Int.reduceGT, Int.reduceGE, Nat.reduceMul, Nat.reduceMod, Nat.reduceDiv]
  simp only [inline_k3, inline_b, inline_rs, Try.f48, beq_no h22, mk_nilE, hw, hgt, F.EVT, Am.splice, Am.enterN, Am.freshMem, Am.cA, Am.cB, Am.cK, Am.cL, Am.cS, Am.cT, Am.cE, Am.aresults, Am.aresult, Am.codeKey, Am.frzTop, Am.spliceP, Nat.reduceAdd, Nat.reduceLeDiff, Nat.reduceBEq, Nat.reduceEqDiff, reduceIte, reduceCtorEq, Nat.reduceSub, Int.reduceBEq, Int.reduceSub, Int.reduceAdd, Int.reduceToNat, Int.reduceLT, Int.reduceLE, Int.reduceEq, Int.reduceNeg, Int.reduceBNe, Int.reduceGT, Int.reduceGE, Nat.reduceMul, Nat.reduceMod, Nat.reduceDiv]
  try rfl
theorem in_cons {bs : List (Option E)} {e u : E} {us : List E} (h22 : e.op ≠ 22) (hb : partsL (u :: us) ≤ 10000000) : InGoal bs e (u :: us) (expOp bs e.op e.n e.s (u :: us)) := by
  unfold InGoal expOp capE
  rw [if_neg (fun q => h22 q.1), parts_mk]
  have hw := fun m0 hv => walkO_0 e.op e.n e.s (u :: us) m0 hb hv
  by_cases hp : partsL (u :: us) + 1 > 1000
  · rw [if_pos hp, bodyAV_none]
    have hgt : ((partsL (u :: us) + 1 : Nat) : Int) > 1000 := by omega
    generalize ((partsL (u :: us) + 1 : Nat) : Int) = k at hw hgt
    rw [inline_e3]; simp only [inline_l3, inline_b, inline_rs, Try.f48, Int.lt_irrefl, F.EVT, Am.splice, Am.enterN, Am.freshMem, Am.cA, Am.cB, Am.cK, Am.cL, Am.cS, Am.cT, Am.cE, Am.aresults, Am.aresult, Am.codeKey, Am.frzTop, Am.spliceP, Nat.reduceAdd, Nat.reduceLeDiff, Nat.reduceBEq, Nat.reduceEqDiff, reduceIte, reduceCtorEq, Nat.reduceSub, Int.reduceBEq, Int.reduceSub, Int.reduceAdd, Int.reduceToNat, Int.reduceLT, Int.reduceLE, Int.reduceEq, Int.reduceNeg, Int.reduceBNe, Int.reduceGT, Int.reduceGE, Nat.reduceMul, Nat.reduceMod, Nat.reduceDiv]
    simp only [inline_k3, inline_b, inline_rs, Try.f48, beq_no h22, mk_consE, hw, hgt, F.EVT, Am.splice, Am.enterN, Am.freshMem, Am.cA, Am.cB, Am.cK, Am.cL, Am.cS, Am.cT, Am.cE, Am.aresults, Am.aresult, Am.codeKey, Am.frzTop, Am.spliceP, Nat.reduceAdd, Nat.reduceLeDiff, Nat.reduceBEq, Nat.reduceEqDiff, reduceIte, reduceCtorEq, Nat.reduceSub, Int.reduceBEq, Int.reduceSub, Int.reduceAdd, Int.reduceToNat, Int.reduceLT, Int.reduceLE, Int.reduceEq, Int.reduceNeg, Int.reduceBNe, Int.reduceGT, Int.reduceGE, Nat.reduceMul, Nat.reduceMod, Nat.reduceDiv]
    try rfl
  · rw [if_neg hp, bodyAV_mk]
    have hgt : ¬ ((partsL (u :: us) + 1 : Nat) : Int) > 1000 := by omega
    generalize ((partsL (u :: us) + 1 : Nat) : Int) = k at hw hgt
    rw [inline_e3]; simp only [inline_l3, inline_b, inline_rs, Try.f48, Int.lt_irrefl, F.EVT, Am.splice, Am.enterN, Am.freshMem, Am.cA, Am.cB, Am.cK, Am.cL, Am.cS, Am.cT, Am.cE, Am.aresults, Am.aresult, Am.codeKey, Am.frzTop, Am.spliceP, Nat.reduceAdd, Nat.reduceLeDiff, Nat.reduceBEq, Nat.reduceEqDiff, reduceIte, reduceCtorEq, Nat.reduceSub, Int.reduceBEq, Int.reduceSub, Int.reduceAdd, Int.reduceToNat, Int.reduceLT, Int.reduceLE, Int.reduceEq, Int.reduceNeg, Int.reduceBNe, Int.reduceGT, Int.reduceGE, Nat.reduceMul, Nat.reduceMod, Nat.reduceDiv]
    simp only [inline_k3, inline_b, inline_rs, Try.f48, beq_no h22, mk_consE, hw, hgt, F.EVT, Am.splice, Am.enterN, Am.freshMem, Am.cA, Am.cB, Am.cK, Am.cL, Am.cS, Am.cT, Am.cE, Am.aresults, Am.aresult, Am.codeKey, Am.frzTop, Am.spliceP, Nat.reduceAdd, Nat.reduceLeDiff, Nat.reduceBEq, Nat.reduceEqDiff, reduceIte, reduceCtorEq, Nat.reduceSub, Int.reduceBEq, Int.reduceSub, Int.reduceAdd, Int.reduceToNat, Int.reduceLT, Int.reduceLE, Int.reduceEq, Int.reduceNeg, Int.reduceBNe, Int.reduceGT, Int.reduceGE, Nat.reduceMul, Nat.reduceMod, Nat.reduceDiv]
    try rfl
theorem in_call {bs : List (Option E)} {e : E} {us : List E} (h22 : e.op = 22) (h0 : 0 ≤ e.n) (hlt : e.n < bs.length) (hus : ∀ u ∈ us, parts u ≤ 1000) (hbs : ∀ b, some b ∈ bs → parts b ≤ 1000) : InGoal bs e us (expOp bs e.op e.n e.s us) := by
  unfold InGoal expOp
  rw [if_pos ⟨h22, h0, hlt⟩]
  have hl : e.n.toNat < bs.length := by omega
  have hg : bs[e.n.toNat]? = some bs[e.n.toNat] := List.getElem?_eq_getElem hl
  have hm := List.getElem_mem hl
  rw [hg]
  generalize bs[e.n.toNat] = o at hg hm
  have hi := index_body h0 hg
  cases o with
  | none =>
    simp only [bodyAV_none]
    simp only [Option.getD_none, Option.isSome_none, show E.z.op = 0 from rfl, show E.z.n = 0 from rfl, show E.z.s = ByteArray.empty from rfl, show E.z.args = [] from rfl, List.map_nil] at hi
    rw [inline_e3]; simp only [inline_l3, inline_b, inline_rs, Try.f48, Int.lt_irrefl, F.EVT, Am.splice, Am.enterN, Am.freshMem, Am.cA, Am.cB, Am.cK, Am.cL, Am.cS, Am.cT, Am.cE, Am.aresults, Am.aresult, Am.codeKey, Am.frzTop, Am.spliceP, Nat.reduceAdd, Nat.reduceLeDiff, Nat.reduceBEq, Nat.reduceEqDiff, reduceIte, reduceCtorEq, Nat.reduceSub, Int.reduceBEq, Int.reduceSub, Int.reduceAdd, Int.reduceToNat, Int.reduceLT, Int.reduceLE, Int.reduceEq, Int.reduceNeg, Int.reduceBNe, Int.reduceGT, Int.reduceGE, Nat.reduceMul, Nat.reduceMod, Nat.reduceDiv]
    simp only [inline_k3, inline_b, inline_rs, Try.f48, h22, hi, F.EVT, Am.splice, Am.enterN, Am.freshMem, Am.cA, Am.cB, Am.cK, Am.cL, Am.cS, Am.cT, Am.cE, Am.aresults, Am.aresult, Am.codeKey, Am.frzTop, Am.spliceP, Nat.reduceAdd, Nat.reduceLeDiff, Nat.reduceBEq, Nat.reduceEqDiff, reduceIte, reduceCtorEq, Nat.reduceSub, Int.reduceBEq, Int.reduceSub, Int.reduceAdd, Int.reduceToNat, Int.reduceLT, Int.reduceLE, Int.reduceEq, Int.reduceNeg, Int.reduceBNe, Int.reduceGT, Int.reduceGE, Nat.reduceMul, Nat.reduceMod, Nat.reduceDiv]
    try rfl
  | some b =>
    have hpb := hbs b hm
    change _ = some (bodyAV (capE ((putE 4 us b).getD E.z)), [])
    simp only [Option.getD_some, Option.isSome_some] at hi
    have hput := put_ok (op := 4) (l := us) (fun x hx => by have := hus x hx; omega) b (by omega)
    have hxp : parts ((putE 4 us b).getD E.z) ≤ 1000000 := by
      cases hq : putE 4 us b with
      | none => simp only [Option.getD_none]; have : parts E.z = 1 := rfl; omega
      | some x =>
        simp only [Option.getD_some]
        have h1 := putE_parts (K := 1000) (by omega) hus b x hq
        have h2 : parts b * 1000 ≤ 1000 * 1000 := Nat.mul_le_mul_right 1000 hpb
        omega
    simp only [opAV] at hput
    generalize (putE 4 us b).isSome = ok at hput
    generalize (putE 4 us b).getD E.z = x at hput hxp ⊢
    have hw := fun m0 hv => walkC_0 x m0 (by omega) hv
    simp only [av_e b, av_e x, show slE us = .pv (.slc (eps us)) from rfl] at hput hw
    unfold capE
    by_cases hp : parts x > 1000
    · rw [if_pos hp, bodyAV_none]
      have hgt : (parts x : Int) > 1000 := by omega
      rw [inline_e3]; simp only [inline_l3, inline_b, inline_rs, Try.f48, Int.lt_irrefl, F.EVT, Am.splice, Am.enterN, Am.freshMem, Am.cA, Am.cB, Am.cK, Am.cL, Am.cS, Am.cT, Am.cE, Am.aresults, Am.aresult, Am.codeKey, Am.frzTop, Am.spliceP, Nat.reduceAdd, Nat.reduceLeDiff, Nat.reduceBEq, Nat.reduceEqDiff, reduceIte, reduceCtorEq, Nat.reduceSub, Int.reduceBEq, Int.reduceSub, Int.reduceAdd, Int.reduceToNat, Int.reduceLT, Int.reduceLE, Int.reduceEq, Int.reduceNeg, Int.reduceBNe, Int.reduceGT, Int.reduceGE, Nat.reduceMul, Nat.reduceMod, Nat.reduceDiv]
      simp only [inline_k3, inline_b, inline_rs, Try.f48, h22, hi, hput, hw, hgt, F.EVT, Am.splice, Am.enterN, Am.freshMem, Am.cA, Am.cB, Am.cK, Am.cL, Am.cS, Am.cT, Am.cE, Am.aresults, Am.aresult, Am.codeKey, Am.frzTop, Am.spliceP, Nat.reduceAdd, Nat.reduceLeDiff, Nat.reduceBEq, Nat.reduceEqDiff, reduceIte, reduceCtorEq, Nat.reduceSub, Int.reduceBEq, Int.reduceSub, Int.reduceAdd, Int.reduceToNat, Int.reduceLT, Int.reduceLE, Int.reduceEq, Int.reduceNeg, Int.reduceBNe, Int.reduceGT, Int.reduceGE, Nat.reduceMul, Nat.reduceMod, Nat.reduceDiv]
      try rfl
    · rw [if_neg hp, bodyAV_some]
      have hgt : ¬ (parts x : Int) > 1000 := by omega
      rw [inline_e3]; simp only [inline_l3, inline_b, inline_rs, Try.f48, Int.lt_irrefl, F.EVT, Am.splice, Am.enterN, Am.freshMem, Am.cA, Am.cB, Am.cK, Am.cL, Am.cS, Am.cT, Am.cE, Am.aresults, Am.aresult, Am.codeKey, Am.frzTop, Am.spliceP, Nat.reduceAdd, Nat.reduceLeDiff, Nat.reduceBEq, Nat.reduceEqDiff, reduceIte, reduceCtorEq, Nat.reduceSub, Int.reduceBEq, Int.reduceSub, Int.reduceAdd, Int.reduceToNat, Int.reduceLT, Int.reduceLE, Int.reduceEq, Int.reduceNeg, Int.reduceBNe, Int.reduceGT, Int.reduceGE, Nat.reduceMul, Nat.reduceMod, Nat.reduceDiv]
      simp only [inline_k3, inline_b, inline_rs, Try.f48, h22, hi, hput, hw, hgt, F.EVT, Am.splice, Am.enterN, Am.freshMem, Am.cA, Am.cB, Am.cK, Am.cL, Am.cS, Am.cT, Am.cE, Am.aresults, Am.aresult, Am.codeKey, Am.frzTop, Am.spliceP, Nat.reduceAdd, Nat.reduceLeDiff, Nat.reduceBEq, Nat.reduceEqDiff, reduceIte, reduceCtorEq, Nat.reduceSub, Int.reduceBEq, Int.reduceSub, Int.reduceAdd, Int.reduceToNat, Int.reduceLT, Int.reduceLE, Int.reduceEq, Int.reduceNeg, Int.reduceBNe, Int.reduceGT, Int.reduceGE, Nat.reduceMul, Nat.reduceMod, Nat.reduceDiv]
      try rfl
end Go.Proofs.Ytjbmdfdgeioecaa.X
