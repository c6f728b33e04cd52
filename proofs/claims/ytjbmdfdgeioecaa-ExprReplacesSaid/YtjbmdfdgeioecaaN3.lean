/- fair, fits, kinds; right values. -/
import Derived.Test.YtjbmdfdgeioecaaN2
namespace Go.Proofs.Ytjbmdfdgeioecaa.X
open Go.Proofs.Ytjbmdfdgeioecaa.Am Go.Proofs.Ytjbmdfdgeioecaa.F
set_option linter.unusedVariables false
set_option linter.unusedSimpArgs false
set_option maxRecDepth 100000
abbrev LIM : Nat := 9223372036854775807
theorem wrapS {i n : Nat} (h : i < n) (hn : n ≤ LIM) : IntKind.i64.wrap ((i : Int) + 1) = ((i + 1 : Nat) : Int) := by
  rw [wrap_ok (by omega) (by simp only [LIM] at hn; omega)]; omega
theorem ints_len (l : List Int) : (ints l).length = l.length := by simp [ints]
def noS (s : ByteArray) : Bool := s.toList == (ByteArray.mk #[]).toList
def rightV (v : V) : Bool := if v.kind == 0 then noS v.s else if v.kind == 1 then v.n == 0 && decide ((v.s.size : Int) ≤ 200) else v.kind == 2 && ((v.n == 0 || v.n == 1) && noS v.s)
theorem rvRight_ok (v : V) : RR 14 [v.av] [] = some (B (rightV v), []) := by
  apply rvRight_r
  unfold rightV
  cases h0 : v.kind == 0
  · cases h1 : v.kind == 1
    · cases h2 : v.kind == 2
      · simp only [rvRight_b, rvRight_h, rvRight_rs, Try.f14, V.av, h0, h1, h2, F.EVT, Am.splice, Am.enterN, Am.freshMem, Am.cA, Am.cB, Am.cK, Am.cL, Am.cS, Am.cT, Am.cE, Am.aresults, Am.aresult, Am.codeKey, Am.frzTop, Am.spliceP, Nat.reduceAdd, Nat.reduceLeDiff, Nat.reduceBEq, Nat.reduceEqDiff, reduceIte, reduceCtorEq, Nat.reduceSub, Int.reduceBEq, Int.reduceSub, Int.reduceAdd, Int.reduceToNat, Int.reduceLT, Int.reduceLE, Int.reduceEq, Int.reduceNeg, Int.reduceBNe, Int.reduceGT, Int.reduceGE, Nat.reduceMul, Nat.reduceMod, Nat.reduceDiv]
        try rfl
      · cases h3 : v.n == 0
        · cases h4 : v.n == 1
          · simp only [rvRight_b, rvRight_h, rvRight_rs, Try.f14, V.av, h0, h1, h2, h3, h4, F.EVT, Am.splice, Am.enterN, Am.freshMem, Am.cA, Am.cB, Am.cK, Am.cL, Am.cS, Am.cT, Am.cE, Am.aresults, Am.aresult, Am.codeKey, Am.frzTop, Am.spliceP, Nat.reduceAdd, Nat.reduceLeDiff, Nat.reduceBEq, Nat.reduceEqDiff, reduceIte, reduceCtorEq, Nat.reduceSub, Int.reduceBEq, Int.reduceSub, Int.reduceAdd, Int.reduceToNat, Int.reduceLT, Int.reduceLE, Int.reduceEq, Int.reduceNeg, Int.reduceBNe, Int.reduceGT, Int.reduceGE, Nat.reduceMul, Nat.reduceMod, Nat.reduceDiv]
            try rfl
          · simp only [rvRight_b, rvRight_h, rvRight_rs, Try.f14, V.av, h0, h1, h2, h3, h4, F.EVT, Am.splice, Am.enterN, Am.freshMem, Am.cA, Am.cB, Am.cK, Am.cL, Am.cS, Am.cT, Am.cE, Am.aresults, Am.aresult, Am.codeKey, Am.frzTop, Am.spliceP, Nat.reduceAdd, Nat.reduceLeDiff, Nat.reduceBEq, Nat.reduceEqDiff, reduceIte, reduceCtorEq, Nat.reduceSub, Int.reduceBEq, Int.reduceSub, Int.reduceAdd, Int.reduceToNat, Int.reduceLT, Int.reduceLE, Int.reduceEq, Int.reduceNeg, Int.reduceBNe, Int.reduceGT, Int.reduceGE, Nat.reduceMul, Nat.reduceMod, Nat.reduceDiv]
            try rfl
        · simp only [rvRight_b, rvRight_h, rvRight_rs, Try.f14, V.av, h0, h1, h2, h3, F.EVT, Am.splice, Am.enterN, Am.freshMem, Am.cA, Am.cB, Am.cK, Am.cL, Am.cS, Am.cT, Am.cE, Am.aresults, Am.aresult, Am.codeKey, Am.frzTop, Am.spliceP, Nat.reduceAdd, Nat.reduceLeDiff, Nat.reduceBEq, Nat.reduceEqDiff, reduceIte, reduceCtorEq, Nat.reduceSub, Int.reduceBEq, Int.reduceSub, Int.reduceAdd, Int.reduceToNat, Int.reduceLT, Int.reduceLE, Int.reduceEq, Int.reduceNeg, Int.reduceBNe, Int.reduceGT, Int.reduceGE, Nat.reduceMul, Nat.reduceMod, Nat.reduceDiv]
          try rfl
    · cases h3 : v.n == 0
      · simp only [rvRight_b, rvRight_h, rvRight_rs, Try.f14, V.av, h0, h1, h3, F.EVT, Am.splice, Am.enterN, Am.freshMem, Am.cA, Am.cB, Am.cK, Am.cL, Am.cS, Am.cT, Am.cE, Am.aresults, Am.aresult, Am.codeKey, Am.frzTop, Am.spliceP, Nat.reduceAdd, Nat.reduceLeDiff, Nat.reduceBEq, Nat.reduceEqDiff, reduceIte, reduceCtorEq, Nat.reduceSub, Int.reduceBEq, Int.reduceSub, Int.reduceAdd, Int.reduceToNat, Int.reduceLT, Int.reduceLE, Int.reduceEq, Int.reduceNeg, Int.reduceBNe, Int.reduceGT, Int.reduceGE, Nat.reduceMul, Nat.reduceMod, Nat.reduceDiv]
        try rfl
      · simp only [rvRight_b, rvRight_h, rvRight_rs, Try.f14, V.av, h0, h1, h3, F.EVT, Am.splice, Am.enterN, Am.freshMem, Am.cA, Am.cB, Am.cK, Am.cL, Am.cS, Am.cT, Am.cE, Am.aresults, Am.aresult, Am.codeKey, Am.frzTop, Am.spliceP, Nat.reduceAdd, Nat.reduceLeDiff, Nat.reduceBEq, Nat.reduceEqDiff, reduceIte, reduceCtorEq, Nat.reduceSub, Int.reduceBEq, Int.reduceSub, Int.reduceAdd, Int.reduceToNat, Int.reduceLT, Int.reduceLE, Int.reduceEq, Int.reduceNeg, Int.reduceBNe, Int.reduceGT, Int.reduceGE, Nat.reduceMul, Nat.reduceMod, Nat.reduceDiv]
        try rfl
  · simp only [rvRight_b, rvRight_h, rvRight_rs, Try.f14, V.av, h0, F.EVT, Am.splice, Am.enterN, Am.freshMem, Am.cA, Am.cB, Am.cK, Am.cL, Am.cS, Am.cT, Am.cE, Am.aresults, Am.aresult, Am.codeKey, Am.frzTop, Am.spliceP, Nat.reduceAdd, Nat.reduceLeDiff, Nat.reduceBEq, Nat.reduceEqDiff, reduceIte, reduceCtorEq, Nat.reduceSub, Int.reduceBEq, Int.reduceSub, Int.reduceAdd, Int.reduceToNat, Int.reduceLT, Int.reduceLE, Int.reduceEq, Int.reduceNeg, Int.reduceBNe, Int.reduceGT, Int.reduceGE, Nat.reduceMul, Nat.reduceMod, Nat.reduceDiv]
    try rfl
def fairF (f : Fn) : Bool := !decide (light f.body 60 20 < 0) && !decide ((f.params.length : Int) > 8)
theorem fair_loop {l : List Fn} (hn : l.length ≤ LIM) : ∀ (xs : List Fn) (i : Nat) (st : St), l.drop i = xs → i ≤ l.length →
    St.forget (fair_h.at 2) st = fair_t2 (.pv (.slc (l.map Fn.pv))) (I i) [⟨[], []⟩] → leaveR PP fair_rs 0 (thenC (blockC 0 (fair_L 2 st)) (acodeX PP RR [] fair_L fair_k2)) = some (B (xs.all fairF && decide ((l.length : Int) ≤ 22)), [])
  | [], i, st, h, hle, hst => by
    have he : i = l.length := by have := drop_nil' h; omega
    subst he
    rw [fair_q2, hst]
    rw [fair_e2]; simp only [fair_k2, fair_l2, fair_b, fair_rs, Try.f30, Int.lt_irrefl, F.EVT, Am.splice, Am.enterN, Am.freshMem, Am.cA, Am.cB, Am.cK, Am.cL, Am.cS, Am.cT, Am.cE, Am.aresults, Am.aresult, Am.codeKey, Am.frzTop, Am.spliceP, Nat.reduceAdd, Nat.reduceLeDiff, Nat.reduceBEq, Nat.reduceEqDiff, reduceIte, reduceCtorEq, Nat.reduceSub, Int.reduceBEq, Int.reduceSub, Int.reduceAdd, Int.reduceToNat, Int.reduceLT, Int.reduceLE, Int.reduceEq, Int.reduceNeg, Int.reduceBNe, Int.reduceGT, Int.reduceGE, Nat.reduceMul, Nat.reduceMod, Nat.reduceDiv]
    try rfl
  | x :: xs, i, st, h, hle, hst => by
    obtain ⟨hlt, hi, hd⟩ := drop_cons h
    have hlt' : (i : Int) < l.length := by omega
    rw [fair_q2, hst]
    have hr := light_ok x.body 60 20 (by omega) (by omega) (by omega) (by omega)
    simp only [E.av] at hr
    have hall : ((x :: xs).all fairF && decide ((l.length : Int) ≤ 22)) = (fairF x && (xs.all fairF && decide ((l.length : Int) ≤ 22))) := by simp [Bool.and_assoc]
    rw [hall]
    unfold fairF
    by_cases h1 : light x.body 60 20 < 0
    · rw [fair_e2]; simp only [fair_k2, fair_l2, fair_b, fair_rs, Try.f30, index_F hi, hlt', hr, h1, F.EVT, Am.splice, Am.enterN, Am.freshMem, Am.cA, Am.cB, Am.cK, Am.cL, Am.cS, Am.cT, Am.cE, Am.aresults, Am.aresult, Am.codeKey, Am.frzTop, Am.spliceP, Nat.reduceAdd, Nat.reduceLeDiff, Nat.reduceBEq, Nat.reduceEqDiff, reduceIte, reduceCtorEq, Nat.reduceSub, Int.reduceBEq, Int.reduceSub, Int.reduceAdd, Int.reduceToNat, Int.reduceLT, Int.reduceLE, Int.reduceEq, Int.reduceNeg, Int.reduceBNe, Int.reduceGT, Int.reduceGE, Nat.reduceMul, Nat.reduceMod, Nat.reduceDiv]
      try rfl
    · by_cases h2 : (x.params.length : Int) > 8
      · rw [fair_e2]; simp only [fair_k2, fair_l2, fair_b, fair_rs, Try.f30, index_F hi, hlt', hr, h1, h2, ints_len, F.EVT, Am.splice, Am.enterN, Am.freshMem, Am.cA, Am.cB, Am.cK, Am.cL, Am.cS, Am.cT, Am.cE, Am.aresults, Am.aresult, Am.codeKey, Am.frzTop, Am.spliceP, Nat.reduceAdd, Nat.reduceLeDiff, Nat.reduceBEq, Nat.reduceEqDiff, reduceIte, reduceCtorEq, Nat.reduceSub, Int.reduceBEq, Int.reduceSub, Int.reduceAdd, Int.reduceToNat, Int.reduceLT, Int.reduceLE, Int.reduceEq, Int.reduceNeg, Int.reduceBNe, Int.reduceGT, Int.reduceGE, Nat.reduceMul, Nat.reduceMod, Nat.reduceDiv]
        try rfl
      · rw [fair_e2]; simp only [fair_k2, fair_l2, fair_b, fair_rs, Try.f30, index_F hi, hlt', hr, h1, h2, ints_len, wrapS hlt hn, F.EVT, Am.splice, Am.enterN, Am.freshMem, Am.cA, Am.cB, Am.cK, Am.cL, Am.cS, Am.cT, Am.cE, Am.aresults, Am.aresult, Am.codeKey, Am.frzTop, Am.spliceP, Nat.reduceAdd, Nat.reduceLeDiff, Nat.reduceBEq, Nat.reduceEqDiff, reduceIte, reduceCtorEq, Nat.reduceSub, Int.reduceBEq, Int.reduceSub, Int.reduceAdd, Int.reduceToNat, Int.reduceLT, Int.reduceLE, Int.reduceEq, Int.reduceNeg, Int.reduceBNe, Int.reduceGT, Int.reduceGE, Nat.reduceMul, Nat.reduceMod, Nat.reduceDiv]
        refine (fair_loop hn xs (i + 1) _ hd hlt (by kernel_rfl)).trans ?_
        try rfl
def fairB (l : List Fn) : Bool := l.all fairF && decide ((l.length : Int) ≤ 22)
theorem fair_ok (l : List Fn) (hn : l.length ≤ LIM) : RR 30 [.pv (.slc (l.map Fn.pv))] [] = some (B (fairB l), []) := by
  apply fair_r
  simp only [fair_b, fair_h, fair_rs, Try.f30, F.EVT, Am.splice, Am.enterN, Am.freshMem, Am.cA, Am.cB, Am.cK, Am.cL, Am.cS, Am.cT, Am.cE, Am.aresults, Am.aresult, Am.codeKey, Am.frzTop, Am.spliceP, Nat.reduceAdd, Nat.reduceLeDiff, Nat.reduceBEq, Nat.reduceEqDiff, reduceIte, reduceCtorEq, Nat.reduceSub, Int.reduceBEq, Int.reduceSub, Int.reduceAdd, Int.reduceToNat, Int.reduceLT, Int.reduceLE, Int.reduceEq, Int.reduceNeg, Int.reduceBNe, Int.reduceGT, Int.reduceGE, Nat.reduceMul, Nat.reduceMod, Nat.reduceDiv]
  exact fair_loop hn l 0 _ rfl (Nat.zero_le _) (by kernel_rfl)
def fitV (v : V) : Bool := rightV v && !decide ((v.s.size : Int) > 200)
theorem fits_loop {l : List V} (hn : l.length ≤ LIM) : ∀ (xs : List V) (i : Nat) (st : St), l.drop i = xs → i ≤ l.length →
    St.forget (fits_h.at 2) st = fits_t2 (.pv (.slc (l.map V.pv))) (I i) [⟨[], []⟩] → leaveR PP fits_rs 0 (thenC (blockC 0 (fits_L 2 st)) (acodeX PP RR [] fits_L fits_k2)) = some (B (xs.all fitV && decide ((l.length : Int) ≤ 20)), [])
  | [], i, st, h, hle, hst => by
    have he : i = l.length := by have := drop_nil' h; omega
    subst he
    rw [fits_q2, hst]
    rw [fits_e2]; simp only [fits_k2, fits_l2, fits_b, fits_rs, Try.f28, Int.lt_irrefl, F.EVT, Am.splice, Am.enterN, Am.freshMem, Am.cA, Am.cB, Am.cK, Am.cL, Am.cS, Am.cT, Am.cE, Am.aresults, Am.aresult, Am.codeKey, Am.frzTop, Am.spliceP, Nat.reduceAdd, Nat.reduceLeDiff, Nat.reduceBEq, Nat.reduceEqDiff, reduceIte, reduceCtorEq, Nat.reduceSub, Int.reduceBEq, Int.reduceSub, Int.reduceAdd, Int.reduceToNat, Int.reduceLT, Int.reduceLE, Int.reduceEq, Int.reduceNeg, Int.reduceBNe, Int.reduceGT, Int.reduceGE, Nat.reduceMul, Nat.reduceMod, Nat.reduceDiv]
    try rfl
  | x :: xs, i, st, h, hle, hst => by
    obtain ⟨hlt, hi, hd⟩ := drop_cons h
    have hlt' : (i : Int) < l.length := by omega
    rw [fits_q2, hst]
    have hr := rvRight_ok x
    simp only [V.av] at hr
    have hall : ((x :: xs).all fitV && decide ((l.length : Int) ≤ 20)) = (fitV x && (xs.all fitV && decide ((l.length : Int) ≤ 20))) := by simp [Bool.and_assoc]
    rw [hall]
    unfold fitV
    cases h1 : rightV x
    · rw [fits_e2]; simp only [fits_k2, fits_l2, fits_b, fits_rs, Try.f28, index_V hi, hlt', hr, h1, F.EVT, Am.splice, Am.enterN, Am.freshMem, Am.cA, Am.cB, Am.cK, Am.cL, Am.cS, Am.cT, Am.cE, Am.aresults, Am.aresult, Am.codeKey, Am.frzTop, Am.spliceP, Nat.reduceAdd, Nat.reduceLeDiff, Nat.reduceBEq, Nat.reduceEqDiff, reduceIte, reduceCtorEq, Nat.reduceSub, Int.reduceBEq, Int.reduceSub, Int.reduceAdd, Int.reduceToNat, Int.reduceLT, Int.reduceLE, Int.reduceEq, Int.reduceNeg, Int.reduceBNe, Int.reduceGT, Int.reduceGE, Nat.reduceMul, Nat.reduceMod, Nat.reduceDiv]
      try rfl
    · by_cases h2 : (x.s.size : Int) > 200
      · rw [fits_e2]; simp only [fits_k2, fits_l2, fits_b, fits_rs, Try.f28, index_V hi, hlt', hr, h1, h2, F.EVT, Am.splice, Am.enterN, Am.freshMem, Am.cA, Am.cB, Am.cK, Am.cL, Am.cS, Am.cT, Am.cE, Am.aresults, Am.aresult, Am.codeKey, Am.frzTop, Am.spliceP, Nat.reduceAdd, Nat.reduceLeDiff, Nat.reduceBEq, Nat.reduceEqDiff, reduceIte, reduceCtorEq, Nat.reduceSub, Int.reduceBEq, Int.reduceSub, Int.reduceAdd, Int.reduceToNat, Int.reduceLT, Int.reduceLE, Int.reduceEq, Int.reduceNeg, Int.reduceBNe, Int.reduceGT, Int.reduceGE, Nat.reduceMul, Nat.reduceMod, Nat.reduceDiv]
        try rfl
      · rw [fits_e2]; simp only [fits_k2, fits_l2, fits_b, fits_rs, Try.f28, index_V hi, hlt', hr, h1, h2, wrapS hlt hn, F.EVT, Am.splice, Am.enterN, Am.freshMem, Am.cA, Am.cB, Am.cK, Am.cL, Am.cS, Am.cT, Am.cE, Am.aresults, Am.aresult, Am.codeKey, Am.frzTop, Am.spliceP, Nat.reduceAdd, Nat.reduceLeDiff, Nat.reduceBEq, Nat.reduceEqDiff, reduceIte, reduceCtorEq, Nat.reduceSub, Int.reduceBEq, Int.reduceSub, Int.reduceAdd, Int.reduceToNat, Int.reduceLT, Int.reduceLE, Int.reduceEq, Int.reduceNeg, Int.reduceBNe, Int.reduceGT, Int.reduceGE, Nat.reduceMul, Nat.reduceMod, Nat.reduceDiv]
        refine (fits_loop hn xs (i + 1) _ hd hlt (by kernel_rfl)).trans ?_
        try rfl
def fitsB (l : List V) : Bool := l.all fitV && decide ((l.length : Int) ≤ 20)
theorem fits_ok (l : List V) (hn : l.length ≤ LIM) : RR 28 [.pv (.slc (l.map V.pv))] [] = some (B (fitsB l), []) := by
  apply fits_r
  simp only [fits_b, fits_h, fits_rs, Try.f28, F.EVT, Am.splice, Am.enterN, Am.freshMem, Am.cA, Am.cB, Am.cK, Am.cL, Am.cS, Am.cT, Am.cE, Am.aresults, Am.aresult, Am.codeKey, Am.frzTop, Am.spliceP, Nat.reduceAdd, Nat.reduceLeDiff, Nat.reduceBEq, Nat.reduceEqDiff, reduceIte, reduceCtorEq, Nat.reduceSub, Int.reduceBEq, Int.reduceSub, Int.reduceAdd, Int.reduceToNat, Int.reduceLT, Int.reduceLE, Int.reduceEq, Int.reduceNeg, Int.reduceBNe, Int.reduceGT, Int.reduceGE, Nat.reduceMul, Nat.reduceMod, Nat.reduceDiv]
  exact fits_loop hn l 0 _ rfl (Nat.zero_le _) (by kernel_rfl)
def kindsOf (l : List V) : List Int := l.map V.kind
theorem kinds_loop {l : List V} (hn : l.length ≤ 1000000) : ∀ (xs : List V) (i : Nat) (st : St), l.drop i = xs → i ≤ l.length →
    St.forget (kinds_h.at 3) st = kinds_t3 (.pv (.slc (l.map V.pv))) (mkOwn 18 (ints (kindsOf (l.take i)))) (I i) [⟨[], [(18, rowT (ints (kindsOf (l.take i))) 1)]⟩] → leaveR PP kinds_rs 0 (thenC (blockC 0 (kinds_L 3 st)) (acodeX PP RR [] kinds_L kinds_k3)) = some (.pv (.slc (ints (kindsOf l))), [])
  | [], i, st, h, hle, hst => by
    have he : i = l.length := by have := drop_nil' h; omega
    subst he
    rw [List.take_length] at hst
    rw [kinds_q3, hst]
    rw [kinds_e3]; simp only [kinds_k3, kinds_l3, kinds_b, kinds_rs, Try.f12, Int.lt_irrefl, F.EVT, Am.splice, Am.enterN, Am.freshMem, Am.cA, Am.cB, Am.cK, Am.cL, Am.cS, Am.cT, Am.cE, Am.aresults, Am.aresult, Am.codeKey, Am.frzTop, Am.spliceP, Nat.reduceAdd, Nat.reduceLeDiff, Nat.reduceBEq, Nat.reduceEqDiff, reduceIte, reduceCtorEq, Nat.reduceSub, Int.reduceBEq, Int.reduceSub, Int.reduceAdd, Int.reduceToNat, Int.reduceLT, Int.reduceLE, Int.reduceEq, Int.reduceNeg, Int.reduceBNe, Int.reduceGT, Int.reduceGE, Nat.reduceMul, Nat.reduceMod, Nat.reduceDiv]
  | x :: xs, i, st, h, hle, hst => by
    obtain ⟨hlt, hi, hd⟩ := drop_cons h
    have hlt' : (i : Int) < l.length := by omega
    rw [kinds_q3, hst]
    have hb : ((ints (kindsOf (l.take i))).length + 1) * 8 ≤ 140737488355328 := by simp [ints, kindsOf]; omega
    have ht : ints (kindsOf (l.take i)) ++ [.int .i64 x.kind] = ints (kindsOf (l.take (i + 1))) := by
      rw [List.take_add_one, hi]; simp [ints, kindsOf]
    rw [kinds_e3]; simp only [kinds_k3, kinds_l3, kinds_b, kinds_rs, Try.f12, index_V hi, hlt', wrapS hlt (show l.length ≤ LIM by simp only [LIM]; omega), hb, ht, F.EVT, Am.splice, Am.enterN, Am.freshMem, Am.cA, Am.cB, Am.cK, Am.cL, Am.cS, Am.cT, Am.cE, Am.aresults, Am.aresult, Am.codeKey, Am.frzTop, Am.spliceP, Nat.reduceAdd, Nat.reduceLeDiff, Nat.reduceBEq, Nat.reduceEqDiff, reduceIte, reduceCtorEq, Nat.reduceSub, Int.reduceBEq, Int.reduceSub, Int.reduceAdd, Int.reduceToNat, Int.reduceLT, Int.reduceLE, Int.reduceEq, Int.reduceNeg, Int.reduceBNe, Int.reduceGT, Int.reduceGE, Nat.reduceMul, Nat.reduceMod, Nat.reduceDiv]
    exact kinds_loop hn xs (i + 1) _ hd hlt (by generalize ints (kindsOf (l.take (i + 1))) = E; cases E <;> kernel_rfl)
theorem kinds_ok (l : List V) (hn : l.length ≤ 1000000) : RR 12 [.pv (.slc (l.map V.pv))] [] = some (.pv (.slc (ints (kindsOf l))), []) := by
  apply kinds_r
  simp only [kinds_b, kinds_h, kinds_rs, Try.f12, F.EVT, Am.splice, Am.enterN, Am.freshMem, Am.cA, Am.cB, Am.cK, Am.cL, Am.cS, Am.cT, Am.cE, Am.aresults, Am.aresult, Am.codeKey, Am.frzTop, Am.spliceP, Nat.reduceAdd, Nat.reduceLeDiff, Nat.reduceBEq, Nat.reduceEqDiff, reduceIte, reduceCtorEq, Nat.reduceSub, Int.reduceBEq, Int.reduceSub, Int.reduceAdd, Int.reduceToNat, Int.reduceLT, Int.reduceLE, Int.reduceEq, Int.reduceNeg, Int.reduceBNe, Int.reduceGT, Int.reduceGE, Nat.reduceMul, Nat.reduceMod, Nat.reduceDiv]
  exact kinds_loop hn l 0 _ rfl (Nat.zero_le _) (by kernel_rfl)
end Go.Proofs.Ytjbmdfdgeioecaa.X
