/- Steps, by the answer of the document. -/
import Derived.Test.YtjbmdfdgeioecaaN6
namespace Go.Proofs.Ytjbmdfdgeioecaa.X
open Go.Proofs.Ytjbmdfdgeioecaa.Am Go.Proofs.Ytjbmdfdgeioecaa.F
set_option linter.unusedVariables false
set_option linter.unusedSimpArgs false
set_option maxRecDepth 100000
set_option maxHeartbeats 1000000
def capM (x : Int) : Int := if 1099511627776 < x then 1099511627776 else x
def mxI (a b : Int) : Int := if b > a then b else a
def cfold (n : Int) : List Int → Int
  | [] => n
  | k :: ks => cfold (capM (n + k)) ks
def cntOp (l ks : List Int) (op n : Int) : Int :=
  if op = 21 ∧ ks.length = 3 then (match ks with | [a, b, c] => capM (1 + a + mxI b c) | _ => 0)
  else if op = 22 ∧ 0 ≤ n ∧ n < l.length then capM (cfold 1 ks + l.getD n.toNat 0) else cfold 1 ks
mutual
def cnt (l : List Int) : E → Int | .mk op n _ args => cntOp l (cntL l args) op n
def cntL (l : List Int) : List E → List Int | [] => [] | a :: es => cnt l a :: cntL l es
end
theorem cnt_eq (l : List Int) (e : E) : cnt l e = cntOp l (cntL l e.args) e.op e.n := by cases e; simp only [cnt, E.args, E.op, E.n]
theorem cntL_len (l : List Int) : ∀ es : List E, (cntL l es).length = es.length
  | [] => rfl
  | a :: es => by simp only [cntL, List.length_cons, cntL_len l es]
def CapI (x : Int) : Prop := 1 ≤ x ∧ x ≤ 1099511627776
theorem capM_ok {x : Int} (h : 1 ≤ x) : CapI (capM x) := by unfold capM CapI; split <;> omega
theorem cfold_ok : ∀ (ks : List Int) (n : Int), CapI n → (∀ k ∈ ks, CapI k) → CapI (cfold n ks)
  | [], n, h, _ => h
  | k :: ks, n, h, hk => by
    have := hk k List.mem_cons_self
    unfold CapI at *
    exact cfold_ok ks _ (capM_ok (by omega)) (fun x hx => hk x (List.mem_cons_of_mem _ hx))
theorem mxI_ok {a b : Int} (ha : CapI a) (hb : CapI b) : CapI (mxI a b) := by unfold mxI; split <;> assumption
theorem cntOp_ok {l ks : List Int} {op n : Int} (hl : ∀ x ∈ l, CapI x) (hk : ∀ k ∈ ks, CapI k) : CapI (cntOp l ks op n) := by
  unfold cntOp
  have h1 : CapI 1 := ⟨by omega, by omega⟩
  have hf := cfold_ok ks 1 h1 hk
  split
  · rename_i h
    match ks, h.2, hk with
    | [a, b, c], _, hk =>
      have ha := hk a (by simp)
      have hm := mxI_ok (hk b (by simp)) (hk c (by simp))
      simp only
      unfold CapI at ha hm
      exact capM_ok (by omega)
  · split
    · rename_i h
      have hlt : n.toNat < l.length := by omega
      have hx := hl _ (List.getElem_mem hlt)
      rw [List.getD_eq_getElem?_getD, List.getElem?_eq_getElem hlt, Option.getD_some]
      unfold CapI at hx hf
      exact capM_ok (by omega)
    · exact hf
theorem cnt_ok {l : List Int} (hl : ∀ x ∈ l, CapI x) : ∀ e : E, CapI (cnt l e) := by
  apply E.ind
  intro e ih
  rw [cnt_eq]
  refine cntOp_ok hl ?_
  have : ∀ es : List E, (∀ a ∈ es, CapI (cnt l a)) → ∀ k ∈ cntL l es, CapI k := by
    intro es
    induction es with
    | nil => intro _ k hk; cases hk
    | cons a es ih =>
      intro h k hk
      simp only [cntL, List.mem_cons] at hk
      rcases hk with rfl | hk
      · exact h _ List.mem_cons_self
      · exact ih (fun b hb => h b (List.mem_cons_of_mem _ hb)) k hk
  exact this _ ih
theorem cntL_ok {l : List Int} (hl : ∀ x ∈ l, CapI x) : ∀ es : List E, ∀ k ∈ cntL l es, CapI k
  | [], k, hk => by cases hk
  | a :: es, k, hk => by
    simp only [cntL, List.mem_cons] at hk
    rcases hk with rfl | hk
    · exact cnt_ok hl a
    · exact cntL_ok hl es k hk
theorem mk_nat {s : Nat} {l : List Int} {a : Int} {i : Nat} (h : l[i]? = some a) : indexC 1 (mkOwn s (ints l)) (i : Int) = some (.eptr [.int .i64 a]) := mk_at (by omega) (by simpa using h)
abbrev rc10 (l : List Int) (e : E) (ks : List Int) (n i : Int) : St := rcount_t10 (slI l) (.ptr none 3 0) (I n) (mkOwn 25 (ints ks)) (I i) [⟨[(3, emem e)], [(25, rowT (ints ks) 1)]⟩]
theorem rcount_10 {l : List Int} {e : E} {ks : List Int} (hl : ∀ x ∈ l, CapI x) (hk : ∀ k ∈ ks, CapI k) (hn : ks.length ≤ LIM) (h3 : ¬ (e.op = 21 ∧ ks.length = 3)) : ∀ (xs : List Int) (i : Nat) (n : Int) (st : St), ks.drop i = xs → i ≤ ks.length → CapI n → cfold n xs = cfold 1 ks →
    St.forget (rcount_h.at 10) st = rc10 l e ks n i → leaveR PP rcount_rs 0 (thenC (blockC 2 (rcount_L 10 st)) (acodeX PP RR [] rcount_L rcount_k10)) = some (I (cntOp l ks e.op e.n), [])
  | [], i, n, st, h, hle, hc, hf, hst => by
    have he : i = ks.length := by have := drop_nil' h; omega
    subst he
    rw [rcount_q10, hst]
    unfold cntOp
    rw [if_neg h3, ← hf]
    simp only [cfold]
    by_cases h22 : e.op = 22
    · by_cases h0 : e.n ≥ 0
      · by_cases hlt : e.n < (l.length : Int)
        · rw [if_pos ⟨h22, h0, hlt⟩]
          have hlt' : e.n.toNat < l.length := by omega
          have hx := hl _ (List.getElem_mem hlt')
          have hg : l[e.n.toNat]? = some l[e.n.toNat] := List.getElem?_eq_getElem hlt'
          rw [List.getD_eq_getElem?_getD, hg, Option.getD_some]
          generalize l[e.n.toNat] = y at hx hg
          unfold CapI at hx hc
          have hw : IntKind.i64.wrap (n + y) = n + y := wrap_ok (by omega) (by omega)
          rw [rcount_e10]; simp only [rcount_k10, rcount_l10, rcount_b, rcount_rs, Try.f50, Int.lt_irrefl, h22, h0, hlt, index_at h0 hg, hw, ints_len, capM, F.EVT, Am.splice, Am.enterN, Am.freshMem, Am.cA, Am.cB, Am.cK, Am.cL, Am.cS, Am.cT, Am.cE, Am.aresults, Am.aresult, Am.codeKey, Am.frzTop, Am.spliceP, Nat.reduceAdd, Nat.reduceLeDiff, Nat.reduceBEq, Nat.reduceEqDiff, reduceIte, reduceCtorEq, Nat.reduceSub, Int.reduceBEq, Int.reduceSub, Int.reduceAdd, Int.reduceToNat, Int.reduceLT, Int.reduceLE, Int.reduceEq, Int.reduceNeg, Int.reduceBNe, Int.reduceGT, Int.reduceGE, Nat.reduceMul, Nat.reduceMod, Nat.reduceDiv]
          try rfl
        · rw [if_neg (fun q => hlt q.2.2)]
          rw [rcount_e10]; simp only [rcount_k10, rcount_l10, rcount_b, rcount_rs, Try.f50, Int.lt_irrefl, h22, h0, hlt, ints_len, F.EVT, Am.splice, Am.enterN, Am.freshMem, Am.cA, Am.cB, Am.cK, Am.cL, Am.cS, Am.cT, Am.cE, Am.aresults, Am.aresult, Am.codeKey, Am.frzTop, Am.spliceP, Nat.reduceAdd, Nat.reduceLeDiff, Nat.reduceBEq, Nat.reduceEqDiff, reduceIte, reduceCtorEq, Nat.reduceSub, Int.reduceBEq, Int.reduceSub, Int.reduceAdd, Int.reduceToNat, Int.reduceLT, Int.reduceLE, Int.reduceEq, Int.reduceNeg, Int.reduceBNe, Int.reduceGT, Int.reduceGE, Nat.reduceMul, Nat.reduceMod, Nat.reduceDiv]
          try rfl
      · rw [if_neg (fun q => h0 q.2.1)]
        rw [rcount_e10]; simp only [rcount_k10, rcount_l10, rcount_b, rcount_rs, Try.f50, Int.lt_irrefl, h22, h0, ints_len, F.EVT, Am.splice, Am.enterN, Am.freshMem, Am.cA, Am.cB, Am.cK, Am.cL, Am.cS, Am.cT, Am.cE, Am.aresults, Am.aresult, Am.codeKey, Am.frzTop, Am.spliceP, Nat.reduceAdd, Nat.reduceLeDiff, Nat.reduceBEq, Nat.reduceEqDiff, reduceIte, reduceCtorEq, Nat.reduceSub, Int.reduceBEq, Int.reduceSub, Int.reduceAdd, Int.reduceToNat, Int.reduceLT, Int.reduceLE, Int.reduceEq, Int.reduceNeg, Int.reduceBNe, Int.reduceGT, Int.reduceGE, Nat.reduceMul, Nat.reduceMod, Nat.reduceDiv]
        try rfl
    · rw [if_neg (fun q => h22 q.1)]
      rw [rcount_e10]; simp only [rcount_k10, rcount_l10, rcount_b, rcount_rs, Try.f50, Int.lt_irrefl, beq_no h22, ints_len, F.EVT, Am.splice, Am.enterN, Am.freshMem, Am.cA, Am.cB, Am.cK, Am.cL, Am.cS, Am.cT, Am.cE, Am.aresults, Am.aresult, Am.codeKey, Am.frzTop, Am.spliceP, Nat.reduceAdd, Nat.reduceLeDiff, Nat.reduceBEq, Nat.reduceEqDiff, reduceIte, reduceCtorEq, Nat.reduceSub, Int.reduceBEq, Int.reduceSub, Int.reduceAdd, Int.reduceToNat, Int.reduceLT, Int.reduceLE, Int.reduceEq, Int.reduceNeg, Int.reduceBNe, Int.reduceGT, Int.reduceGE, Nat.reduceMul, Nat.reduceMod, Nat.reduceDiv]
      try rfl
  | x :: xs, i, n, st, h, hle, hc, hf, hst => by
    obtain ⟨hlt, hi, hd⟩ := drop_cons h
    have hlt' : (i : Int) < ks.length := by omega
    have hx := hk _ (List.mem_of_getElem? hi)
    have hc' := hc
    unfold CapI at hx hc'
    have hw : IntKind.i64.wrap (n + x) = n + x := wrap_ok (by omega) (by omega)
    rw [rcount_q10, hst]
    rw [rcount_e10]; simp only [rcount_l10, rcount_b, rcount_rs, Try.f50, mk_nat hi, hlt', hw, wrapS hlt hn, ints_len, F.EVT, Am.splice, Am.enterN, Am.freshMem, Am.cA, Am.cB, Am.cK, Am.cL, Am.cS, Am.cT, Am.cE, Am.aresults, Am.aresult, Am.codeKey, Am.frzTop, Am.spliceP, Nat.reduceAdd, Nat.reduceLeDiff, Nat.reduceBEq, Nat.reduceEqDiff, reduceIte, reduceCtorEq, Nat.reduceSub, Int.reduceBEq, Int.reduceSub, Int.reduceAdd, Int.reduceToNat, Int.reduceLT, Int.reduceLE, Int.reduceEq, Int.reduceNeg, Int.reduceBNe, Int.reduceGT, Int.reduceGE, Nat.reduceMul, Nat.reduceMod, Nat.reduceDiv]
    exact rcount_10 hl hk hn h3 xs (i + 1) (capM (n + x)) _ hd hlt (capM_ok (by omega)) (by rw [← hf]; rfl) (by delta rc10; generalize ints ks = E; cases E <;> kernel_rfl)
end Go.Proofs.Ytjbmdfdgeioecaa.X
