/- Walking an expression whose parts lie in a row of the caller. -/
import Derived.Test.YtjbmdfdgeioecaaN38
namespace Go.Proofs.Ytjbmdfdgeioecaa.X
open Go.Proofs.Ytjbmdfdgeioecaa.Am Go.Proofs.Ytjbmdfdgeioecaa.F
set_option linter.unusedVariables false
set_option linter.unusedSimpArgs false
set_option maxRecDepth 100000
set_option maxHeartbeats 1000000
abbrev ownE (o n : Int) (s : ByteArray) (A : AV) : AV := .agg [I o, I n, .pv (.str s), A]
theorem len_own (d s : Nat) (es : List PV) : (AV.own (some d) s es).slc? = some es := rfl
theorem index_own {l : List E} {i : Nat} {a : E} {d s : Nat} (h : l[i]? = some a) : indexC 4 (.own (some d) s (eps l)) (i : Int) = some (.eptr [.int .i64 a.op, .int .i64 a.n, .str a.s, .slc (a.args.map E.pv)]) := by
  simp [indexC, AV.slc?, h, eps, a.pv_len, a.pv_eq, PV.cells]
theorem inline1_own (o n : Int) (s : ByteArray) (es : List E) (m m0 : Mem) (c : Nat) (hc : c ≤ 1000000000) (h : varAt [m0] 0 10 = some [I c]) : RR 85 [ownE o n s (.own (some 0) 37 (eps es)), .ptr (some 0) 10 0] [m, m0] = some (.tup [], m :: setVar [m0] 0 10 [I (c + 1 : Nat)]) := by
  have hw : IntKind.i64.wrap ((c : Int) + 1) = ((c + 1 : Nat) : Int) := by rw [wrap_ok (by omega) (by omega)]; omega
  apply inline1_r
  obtain ⟨vs, tk⟩ := m
  simp only [inline1_b, inline1_h, inline1_rs, Try.f85, h, hw, n01, List.length_cons, List.length_nil, F.EVT, Am.splice, Am.enterN, Am.freshMem, Am.cA, Am.cB, Am.cK, Am.cL, Am.cS, Am.cT, Am.cE, Am.aresults, Am.aresult, Am.codeKey, Am.frzTop, Am.spliceP, Nat.reduceAdd, Nat.reduceLeDiff, Nat.reduceBEq, Nat.reduceEqDiff, reduceIte, reduceCtorEq, Nat.reduceSub, Int.reduceBEq, Int.reduceSub, Int.reduceAdd, Int.reduceToNat, Int.reduceLT, Int.reduceLE, Int.reduceEq, Int.reduceNeg, Int.reduceBNe, Int.reduceGT, Int.reduceGE, Nat.reduceMul, Nat.reduceMod, Nat.reduceDiv]
  skip
theorem inline1_full (o n : Int) (s : ByteArray) (m m0 : Mem) (c : Nat) (hc : c ≤ 1000000000) (h : varAt [m0] 0 10 = some [I c]) : RR 85 [ownE o n s (.full []), .ptr (some 0) 10 0] [m, m0] = some (.tup [], m :: setVar [m0] 0 10 [I (c + 1 : Nat)]) := by
  have hw : IntKind.i64.wrap ((c : Int) + 1) = ((c + 1 : Nat) : Int) := by rw [wrap_ok (by omega) (by omega)]; omega
  apply inline1_r
  obtain ⟨vs, tk⟩ := m
  simp only [inline1_b, inline1_h, inline1_rs, Try.f85, h, hw, n01, List.length_cons, List.length_nil, F.EVT, Am.splice, Am.enterN, Am.freshMem, Am.cA, Am.cB, Am.cK, Am.cL, Am.cS, Am.cT, Am.cE, Am.aresults, Am.aresult, Am.codeKey, Am.frzTop, Am.spliceP, Nat.reduceAdd, Nat.reduceLeDiff, Nat.reduceBEq, Nat.reduceEqDiff, reduceIte, reduceCtorEq, Nat.reduceSub, Int.reduceBEq, Int.reduceSub, Int.reduceAdd, Int.reduceToNat, Int.reduceLT, Int.reduceLE, Int.reduceEq, Int.reduceNeg, Int.reduceBNe, Int.reduceGT, Int.reduceGE, Nat.reduceMul, Nat.reduceMod, Nat.reduceDiv]
  skip
theorem walkO_loop {es : List E} {A : AV} (hA : A = .own (some 0) 37 (eps es)) (hn : es.length ≤ 1000000000) :
    ∀ (xs : List E) (i c : Nat) (m0 : Mem) (st : St), es.drop i = xs → i ≤ es.length → c + partsL xs ≤ 1000000000 → varAt [m0] 0 10 = some [I c] →
    St.forget (walk_h.at 3) st = walk_t3 f85 A (I es.length) (I i) [⟨[], []⟩, m0] → leaveR PP walk_rs 1 (blockC 0 (walk_L 3 st)) = some (.tup [], setVar [m0] 0 10 [I (c + partsL xs : Nat)])
  | [], i, c, m0, st, h, hle, hc, hv, hst => by
    have he : i = es.length := by have := drop_nil' h; omega
    subst he
    rw [walk_q3, hst]
    simp only [partsL, Nat.add_zero]
    rw [setVar_same hv]
    rw [walk_e3]; simp only [walk_k3, walk_l3, walk_b, walk_rs, Try.f52, Int.lt_irrefl, F.EVT, Am.splice, Am.enterN, Am.freshMem, Am.cA, Am.cB, Am.cK, Am.cL, Am.cS, Am.cT, Am.cE, Am.aresults, Am.aresult, Am.codeKey, Am.frzTop, Am.spliceP, Nat.reduceAdd, Nat.reduceLeDiff, Nat.reduceBEq, Nat.reduceEqDiff, reduceIte, reduceCtorEq, Nat.reduceSub, Int.reduceBEq, Int.reduceSub, Int.reduceAdd, Int.reduceToNat, Int.reduceLT, Int.reduceLE, Int.reduceEq, Int.reduceNeg, Int.reduceBNe, Int.reduceGT, Int.reduceGE, Nat.reduceMul, Nat.reduceMod, Nat.reduceDiv]
    try rfl
  | x :: xs, i, c, m0, st, h, hle, hc, hv, hst => by
    obtain ⟨hlt, hi, hd⟩ := drop_cons h
    have hlt' : (i : Int) < es.length := by omega
    simp only [partsL] at hc
    have hx := walkC_ok x (⟨[(5, emem x)], []⟩) [m0] c (by omega) (by rw [varAt_up]; exact hv)
    rw [setVar_up] at hx
    simp only [E.av] at hx
    obtain ⟨m1, ms1, h1, h2⟩ := setVar_shape m0 [] 0 10 [I (c + parts x : Nat)]
    have h3 : ms1 = [] := List.eq_nil_of_length_eq_zero h2
    subst h3
    have hv1 := varAt_some (cs := [I (c + parts x : Nat)]) hv
    have ht := setVar_twice [m0] 0 10 [I (c + parts x : Nat)] [I (c + parts x + partsL xs : Nat)]
    rw [h1] at hx hv1 ht
    rw [walk_q3, hst]
    have hs : ∃ st', walk_X3 (walk_t3 f85 A (I es.length) (I i) [⟨[], []⟩, m0]) = walk_L 3 st' ∧ St.forget (walk_h.at 3) st' = walk_t3 f85 A (I es.length) (I (i + 1 : Nat)) [⟨[], []⟩, m1] := by
      subst hA
      rw [walk_e3]; simp only [walk_l3, walk_b, walk_rs, Try.f52, index_own hi, hlt', hx, wrapS hlt (show es.length ≤ LIM by simp only [LIM]; omega), F.EVT, Am.splice, Am.enterN, Am.freshMem, Am.cA, Am.cB, Am.cK, Am.cL, Am.cS, Am.cT, Am.cE, Am.aresults, Am.aresult, Am.codeKey, Am.frzTop, Am.spliceP, Nat.reduceAdd, Nat.reduceLeDiff, Nat.reduceBEq, Nat.reduceEqDiff, reduceIte, reduceCtorEq, Nat.reduceSub, Int.reduceBEq, Int.reduceSub, Int.reduceAdd, Int.reduceToNat, Int.reduceLT, Int.reduceLE, Int.reduceEq, Int.reduceNeg, Int.reduceBNe, Int.reduceGT, Int.reduceGE, Nat.reduceMul, Nat.reduceMod, Nat.reduceDiv]
      exact ⟨_, rfl, by kernel_rfl⟩
    obtain ⟨st', g1, g2⟩ := hs
    rw [g1, show c + partsL (x :: xs) = c + parts x + partsL xs by simp only [partsL]; omega, ← ht]
    exact walkO_loop hA hn xs (i + 1) (c + parts x) m1 st' hd hlt (by omega) hv1 g2
theorem walkO_ok (o n : Int) (s : ByteArray) (es : List E) (m0 : Mem) (c : Nat) (hc : c + 1 + partsL es ≤ 1000000000) (hv : varAt [m0] 0 10 = some [I c]) : RR 52 [ownE o n s (.own (some 0) 37 (eps es)), f85] [m0] = some (.tup [], setVar [m0] 0 10 [I (c + 1 + partsL es : Nat)]) := by
  have hn := partsL_len es
  have h1 := inline1_own o n s es ⟨[(2, [I o, I n, .pv (.str s), .own (some 0) 37 (eps es)])], []⟩ m0 c (by omega) hv
  obtain ⟨m1, ms1, g1, g2⟩ := setVar_shape m0 [] 0 10 [I (c + 1 : Nat)]
  have h3 : ms1 = [] := List.eq_nil_of_length_eq_zero g2
  subst h3
  have hv1 := varAt_some (cs := [I (c + 1 : Nat)]) hv
  have ht := setVar_twice [m0] 0 10 [I (c + 1 : Nat)] [I (c + 1 + partsL es : Nat)]
  rw [g1] at h1 hv1 ht
  have hloop := walkO_loop (es := es) rfl (by omega) es 0 (c + 1) m1
  have hel : ((eps es).length : Int) = es.length := by rw [eps_len]
  rw [← ht]
  apply walk_r
  generalize hr : (some (AV.tup [], setVar [m1] 0 10 [I (c + 1 + partsL es : Nat)])) = r at hloop ⊢
  simp only [walk_b, walk_h, walk_rs, Try.f52, h1, hel, List.length_cons, List.length_nil, F.EVT, Am.splice, Am.enterN, Am.freshMem, Am.cA, Am.cB, Am.cK, Am.cL, Am.cS, Am.cT, Am.cE, Am.aresults, Am.aresult, Am.codeKey, Am.frzTop, Am.spliceP, Nat.reduceAdd, Nat.reduceLeDiff, Nat.reduceBEq, Nat.reduceEqDiff, reduceIte, reduceCtorEq, Nat.reduceSub, Int.reduceBEq, Int.reduceSub, Int.reduceAdd, Int.reduceToNat, Int.reduceLT, Int.reduceLE, Int.reduceEq, Int.reduceNeg, Int.reduceBNe, Int.reduceGT, Int.reduceGE, Nat.reduceMul, Nat.reduceMod, Nat.reduceDiv]
  exact hloop _ rfl (Nat.zero_le _) (by omega) hv1 (by kernel_rfl)
theorem walkF_end (m1 : Mem) (st : St) (hst : St.forget (walk_h.at 3) st = walk_t3 f85 (.full []) (I 0) (I 0) [⟨[], []⟩, m1]) : leaveR PP walk_rs 1 (blockC 0 (walk_L 3 st)) = some (.tup [], [m1]) := by
  rw [walk_q3, hst]
  rw [walk_e3]; simp only [walk_k3, walk_l3, walk_b, walk_rs, Try.f52, Int.lt_irrefl, F.EVT, Am.splice, Am.enterN, Am.freshMem, Am.cA, Am.cB, Am.cK, Am.cL, Am.cS, Am.cT, Am.cE, Am.aresults, Am.aresult, Am.codeKey, Am.frzTop, Am.spliceP, Nat.reduceAdd, Nat.reduceLeDiff, Nat.reduceBEq, Nat.reduceEqDiff, reduceIte, reduceCtorEq, Nat.reduceSub, Int.reduceBEq, Int.reduceSub, Int.reduceAdd, Int.reduceToNat, Int.reduceLT, Int.reduceLE, Int.reduceEq, Int.reduceNeg, Int.reduceBNe, Int.reduceGT, Int.reduceGE, Nat.reduceMul, Nat.reduceMod, Nat.reduceDiv]
  try rfl
theorem walkF_ok (o n : Int) (s : ByteArray) (m0 : Mem) (c : Nat) (hc : c ≤ 1000000000) (hv : varAt [m0] 0 10 = some [I c]) : RR 52 [ownE o n s (.full []), f85] [m0] = some (.tup [], setVar [m0] 0 10 [I (c + 1 : Nat)]) := by
  have h1 := inline1_full o n s ⟨[(2, [I o, I n, .pv (.str s), .full []])], []⟩ m0 c (by omega) hv
  obtain ⟨m1, ms1, g1, g2⟩ := setVar_shape m0 [] 0 10 [I (c + 1 : Nat)]
  have h3 : ms1 = [] := List.eq_nil_of_length_eq_zero g2
  subst h3
  rw [g1] at h1 ⊢
  have hloop := walkF_end m1
  apply walk_r
  simp only [walk_b, walk_h, walk_rs, Try.f52, h1, List.length_cons, List.length_nil, F.EVT, Am.splice, Am.enterN, Am.freshMem, Am.cA, Am.cB, Am.cK, Am.cL, Am.cS, Am.cT, Am.cE, Am.aresults, Am.aresult, Am.codeKey, Am.frzTop, Am.spliceP, Nat.reduceAdd, Nat.reduceLeDiff, Nat.reduceBEq, Nat.reduceEqDiff, reduceIte, reduceCtorEq, Nat.reduceSub, Int.reduceBEq, Int.reduceSub, Int.reduceAdd, Int.reduceToNat, Int.reduceLT, Int.reduceLE, Int.reduceEq, Int.reduceNeg, Int.reduceBNe, Int.reduceGT, Int.reduceGE, Nat.reduceMul, Nat.reduceMod, Nat.reduceDiv]
  exact hloop _ (by kernel_rfl)
end Go.Proofs.Ytjbmdfdgeioecaa.X
