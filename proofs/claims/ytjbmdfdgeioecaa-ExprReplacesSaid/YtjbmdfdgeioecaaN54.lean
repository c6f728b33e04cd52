/- Reads, by the code: walking with the map; the keys in order. -/
import Derived.Test.YtjbmdfdgeioecaaN4
import Derived.Test.YtjbmdfdgeioecaaN34
import Derived.Test.YtjbmdfdgeioecaaN52
namespace Go.Proofs.Ytjbmdfdgeioecaa.X
open Go.Proofs.Ytjbmdfdgeioecaa.Am Go.Proofs.Ytjbmdfdgeioecaa.F
set_option linter.unusedVariables false
set_option linter.unusedSimpArgs false
set_option maxRecDepth 100000
set_option maxHeartbeats 1000000
theorem varAt_43 {ms : List Mem} {cs : List AV} : varAt (setVar ms 0 4 cs) 0 3 = varAt ms 0 3 := by
  rw [varAt_setVar, if_neg (by simp)]
theorem walkR_loop {e : E} (hl : ∀ a ∈ e.args, ∀ (m0 : Mem) (ms : List Mem) (ks : List Int), varAt (m0 :: ms) 0 3 = some [.mref none 4] → varAt (m0 :: ms) 0 4 = some [rents ks] → RR 52 [a.av, f55] (m0 :: ms) = some (.tup [], setVar (m0 :: ms) 0 4 [rents (colsE ks a)])) (hn : e.args.length ≤ 1000000000) :
    ∀ (xs : List E) (i : Nat) (ks : List Int) (m0 : Mem) (ms : List Mem) (st : St), e.args.drop i = xs → i ≤ e.args.length → varAt (m0 :: ms) 0 3 = some [.mref none 4] → varAt (m0 :: ms) 0 4 = some [rents ks] →
    St.forget (walk_h.at 3) st = walk_t3 f55 (slE e.args) (I e.args.length) (I i) (⟨[], []⟩ :: m0 :: ms) → leaveR PP walk_rs (ms.length + 1) (blockC 0 (walk_L 3 st)) = some (.tup [], setVar (m0 :: ms) 0 4 [rents (colsL ks xs)])
  | [], i, ks, m0, ms, st, h, hle, h3, hv, hst => by
    have he : i = e.args.length := by have := drop_nil' h; omega
    subst he
    rw [walk_q3, hst]
    simp only [colsL]
    rw [setVar_same hv]
    rw [walk_e3]; simp only [walk_k3, walk_l3, walk_b, walk_rs, Try.f52, Int.lt_irrefl, F.EVT, Am.splice, Am.enterN, Am.freshMem, Am.cA, Am.cB, Am.cK, Am.cL, Am.cS, Am.cT, Am.cE, Am.aresults, Am.aresult, Am.codeKey, Am.frzTop, Am.spliceP, Nat.reduceAdd, Nat.reduceLeDiff, Nat.reduceBEq, Nat.reduceEqDiff, reduceIte, reduceCtorEq, Nat.reduceSub, Int.reduceBEq, Int.reduceSub, Int.reduceAdd, Int.reduceToNat, Int.reduceLT, Int.reduceLE, Int.reduceEq, Int.reduceNeg, Int.reduceBNe, Int.reduceGT, Int.reduceGE, Nat.reduceMul, Nat.reduceMod, Nat.reduceDiv]
    try rfl
  | x :: xs, i, ks, m0, ms, st, h, hle, h3, hv, hst => by
    obtain ⟨hlt, hi, hd⟩ := drop_cons h
    have hlt' : (i : Int) < e.args.length := by omega
    have hx := hl x (List.mem_of_getElem? hi) (⟨[(5, emem x)], []⟩) (m0 :: ms) ks (by rw [varAt_up]; exact h3) (by rw [varAt_up]; exact hv)
    rw [setVar_up] at hx
    simp only [E.av] at hx
    obtain ⟨m1, ms1, h1, h2⟩ := setVar_shape m0 ms 0 4 [rents (colsE ks x)]
    have hv1 := varAt_some (cs := [rents (colsE ks x)]) hv
    have hv3 := varAt_43 (ms := m0 :: ms) (cs := [rents (colsE ks x)])
    have ht := setVar_twice (m0 :: ms) 0 4 [rents (colsE ks x)] [rents (colsL (colsE ks x) xs)]
    rw [h1] at hx hv1 ht hv3
    rw [h3] at hv3
    rw [walk_q3, hst]
    have hs : ∃ st', walk_X3 (walk_t3 f55 (slE e.args) (I e.args.length) (I i) (⟨[], []⟩ :: m0 :: ms)) = walk_L 3 st' ∧ St.forget (walk_h.at 3) st' = walk_t3 f55 (slE e.args) (I e.args.length) (I (i + 1 : Nat)) (⟨[], []⟩ :: m1 :: ms1) := by
      rw [walk_e3]; simp only [walk_l3, walk_b, walk_rs, Try.f52, index_E hi, hlt', hx, wrapS hlt (show e.args.length ≤ LIM by simp only [LIM]; omega), F.EVT, Am.splice, Am.enterN, Am.freshMem, Am.cA, Am.cB, Am.cK, Am.cL, Am.cS, Am.cT, Am.cE, Am.aresults, Am.aresult, Am.codeKey, Am.frzTop, Am.spliceP, Nat.reduceAdd, Nat.reduceLeDiff, Nat.reduceBEq, Nat.reduceEqDiff, reduceIte, reduceCtorEq, Nat.reduceSub, Int.reduceBEq, Int.reduceSub, Int.reduceAdd, Int.reduceToNat, Int.reduceLT, Int.reduceLE, Int.reduceEq, Int.reduceNeg, Int.reduceBNe, Int.reduceGT, Int.reduceGE, Nat.reduceMul, Nat.reduceMod, Nat.reduceDiv]
      exact ⟨_, rfl, by kernel_rfl⟩
    obtain ⟨st', g1, g2⟩ := hs
    rw [g1, show colsL ks (x :: xs) = colsL (colsE ks x) xs by simp only [colsL], ← ht, ← h2]
    exact walkR_loop hl hn xs (i + 1) (colsE ks x) m1 ms1 st' hd hlt hv3 hv1 g2
theorem walkR_ok : ∀ (e : E), parts e ≤ 1000000000 → ∀ (m0 : Mem) (ms : List Mem) (ks : List Int), varAt (m0 :: ms) 0 3 = some [.mref none 4] → varAt (m0 :: ms) 0 4 = some [rents ks] → RR 52 [e.av, f55] (m0 :: ms) = some (.tup [], setVar (m0 :: ms) 0 4 [rents (colsE ks e)]) := by
  apply E.ind (p := fun e => parts e ≤ 1000000000 → ∀ (m0 : Mem) (ms : List Mem) (ks : List Int), varAt (m0 :: ms) 0 3 = some [.mref none 4] → varAt (m0 :: ms) 0 4 = some [rents ks] → RR 52 [e.av, f55] (m0 :: ms) = some (.tup [], setVar (m0 :: ms) 0 4 [rents (colsE ks e)]))
  intro e ih hp m0 ms ks h3 hv
  have hpa := parts_eq e
  have hn := partsL_len e.args
  have h1 := reads1_ok e ⟨[(2, emem e)], []⟩ m0 ms ks h3 hv
  rw [colsE_eq]
  generalize (if e.op == 3 then insK ks e.n else ks) = ks1 at h1 ⊢
  obtain ⟨m1, ms1, g1, g2⟩ := setVar_shape m0 ms 0 4 [rents ks1]
  have hv1 := varAt_some (cs := [rents ks1]) hv
  have hv3 := varAt_43 (ms := m0 :: ms) (cs := [rents ks1])
  have ht := setVar_twice (m0 :: ms) 0 4 [rents ks1] [rents (colsL ks1 e.args)]
  rw [g1] at h1 hv1 ht hv3
  rw [h3] at hv3
  have hloop := walkR_loop (e := e) (fun a ha => ih a ha (by have := partsL_mem ha; omega)) (by omega) e.args 0 ks1 m1 ms1
  rw [← ht]
  apply walk_r
  generalize hr : (some (AV.tup [], setVar (m1 :: ms1) 0 4 [rents (colsL ks1 e.args)])) = r at hloop ⊢
  simp only [av_e e] at h1 ⊢
  rw [List.length_cons, ← g2]
  simp only [walk_b, walk_h, walk_rs, Try.f52, h1, F.EVT, Am.splice, Am.enterN, Am.freshMem, Am.cA, Am.cB, Am.cK, Am.cL, Am.cS, Am.cT, Am.cE, Am.aresults, Am.aresult, Am.codeKey, Am.frzTop, Am.spliceP, Nat.reduceAdd, Nat.reduceLeDiff, Nat.reduceBEq, Nat.reduceEqDiff, reduceIte, reduceCtorEq, Nat.reduceSub, Int.reduceBEq, Int.reduceSub, Int.reduceAdd, Int.reduceToNat, Int.reduceLT, Int.reduceLE, Int.reduceEq, Int.reduceNeg, Int.reduceBNe, Int.reduceGT, Int.reduceGE, Nat.reduceMul, Nat.reduceMod, Nat.reduceDiv]
  exact hloop _ rfl (Nat.zero_le _) hv3 hv1 (by kernel_rfl)
/-! ### the keys -/
theorem insK_mem (ks : List Int) (n m : Int) : m ∈ insK ks n ↔ m ∈ ks ∨ m = n := by
  unfold insK
  split
  · rename_i h
    have := List.contains_iff_mem.mp h
    constructor
    · exact Or.inl
    · rintro (h | rfl)
      · exact h
      · exact this
  · simp
theorem insK_nodup {ks : List Int} {n : Int} (h : ks.Nodup) : (insK ks n).Nodup := by
  unfold insK
  split
  · exact h
  · rename_i hc
    refine List.nodup_append.mpr ⟨h, by simp, fun a ha b hb => ?_⟩
    simp only [List.mem_singleton] at hb
    subst hb
    rintro rfl
    exact hc (List.contains_iff_mem.mpr ha)
theorem insK_len (ks : List Int) (n : Int) : (insK ks n).length ≤ ks.length + 1 := by
  unfold insK
  split
  · omega
  · simp
mutual
theorem colsE_mem (m : Int) : ∀ (ks : List Int) (e : E), m ∈ colsE ks e ↔ m ∈ ks ∨ readsN m e = true
  | ks, .mk op n s args => by
    simp only [colsE, readsN, colsL_mem m _ args, Bool.or_eq_true, Bool.and_eq_true]
    cases h : (op == 3)
    · simp
    · simp only [if_true, insK_mem, true_and, beq_iff_eq]
      constructor
      · rintro ((h | h) | h)
        · exact .inl h
        · exact .inr (.inl h.symm)
        · exact .inr (.inr h)
      · rintro (h | h | h)
        · exact .inl (.inl h)
        · exact .inl (.inr h.symm)
        · exact .inr h
theorem colsL_mem (m : Int) : ∀ (ks : List Int) (l : List E), m ∈ colsL ks l ↔ m ∈ ks ∨ readsNL m l = true
  | ks, [] => by simp [colsL, readsNL]
  | ks, a :: l => by
    simp only [colsL, readsNL, colsL_mem m _ l, colsE_mem m ks a, Bool.or_eq_true, or_assoc]
end
mutual
theorem colsE_nodup : ∀ (ks : List Int) (e : E), ks.Nodup → (colsE ks e).Nodup
  | ks, .mk op n s args, h => by
    simp only [colsE]
    refine colsL_nodup _ args ?_
    split
    · exact insK_nodup h
    · exact h
theorem colsL_nodup : ∀ (ks : List Int) (l : List E), ks.Nodup → (colsL ks l).Nodup
  | ks, [], h => by simp only [colsL]; exact h
  | ks, a :: l, h => by simp only [colsL]; exact colsL_nodup _ l (colsE_nodup ks a h)
end
mutual
theorem colsE_len : ∀ (ks : List Int) (e : E), (colsE ks e).length ≤ ks.length + parts e
  | ks, .mk op n s args => by
    simp only [colsE, parts]
    have h1 := colsL_len (if op == 3 then insK ks n else ks) args
    have h2 : (if op == 3 then insK ks n else ks).length ≤ ks.length + 1 := by
      split
      · exact insK_len ks n
      · omega
    omega
theorem colsL_len : ∀ (ks : List Int) (l : List E), (colsL ks l).length ≤ ks.length + partsL l
  | ks, [] => by simp only [colsL, partsL]; omega
  | ks, a :: l => by
    simp only [colsL, partsL]
    have h1 := colsL_len (colsE ks a) l
    have h2 := colsE_len ks a
    omega
end
theorem nodupI_of : ∀ {l : List Int}, l.Nodup → nodupI l = true
  | [], _ => rfl
  | x :: l, h => by
    obtain ⟨h1, h2⟩ := List.nodup_cons.mp h
    simp only [nodupI, Bool.and_eq_true, Bool.not_eq_true']
    refine ⟨?_, nodupI_of h2⟩
    cases hc : l.contains x
    · rfl
    · exact absurd (List.contains_iff_mem.mp hc) h1
/-- Numbers and texts of Go's. -/
def wf64 (n : Int) : Prop := (Lit.int .i64 n).wf = true
mutual
def wfE : E → Prop | .mk op n s args => (wf64 op ∧ wf64 n ∧ s.size ≤ maxLen) ∧ wfEs args
def wfEs : List E → Prop | [] => True | a :: l => wfE a ∧ wfEs l
end
theorem wfEs_of : ∀ {l : List E}, (∀ x ∈ l, wfE x) → wfEs l
  | [], _ => by simp only [wfEs]
  | a :: l, h => by simp only [wfEs]; exact ⟨h a (by simp), wfEs_of fun x hx => h x (by simp [hx])⟩
mutual
theorem wf_reads {n : Int} : ∀ e : E, wfE e → readsN n e = true → wf64 n
  | .mk op m s args, h, hr => by
    simp only [readsN, Bool.or_eq_true, Bool.and_eq_true, beq_iff_eq] at hr
    simp only [wfE] at h
    rcases hr with ⟨_, rfl⟩ | hr
    · exact h.1.2.1
    · exact wf_readsL args h.2 hr
theorem wf_readsL {n : Int} : ∀ l : List E, wfEs l → readsNL n l = true → wf64 n
  | [], _, hr => by simp [readsNL] at hr
  | a :: l, h, hr => by
    simp only [readsNL, Bool.or_eq_true] at hr
    simp only [wfEs] at h
    rcases hr with hr | hr
    · exact wf_reads a h.1 hr
    · exact wf_readsL l h.2 hr
end
theorem wfI_of {n : Int} (h : wf64 n) : wfI n = true := by
  unfold wf64 Lit.wf at h
  simp only [wfI, Bool.and_eq_true, decide_eq_true_eq]
  simpa [IntKind.min, IntKind.max, IntKind.signed, IntKind.bits] using h
/-- A number that a list of columns may hold. -/
def wfC (e : E) : Prop := ∀ n, readsN n e = true → wf64 n
theorem cols_wfI {e : E} (h : wfC e) : (colsE [] e).all wfI = true := by
  refine List.all_eq_true.mpr fun n hn => wfI_of ?_
  rcases (colsE_mem n [] e).mp hn with hn | hn
  · cases hn
  · exact h n hn
theorem intKs_ints : ∀ l : List Int, intKs (ints l) = some l
  | [] => rfl
  | n :: l => by show (intKs (ints l)).map (n :: ·) = _; rw [intKs_ints l]; rfl
theorem walkR_0 {e : E} {m0 : Mem} (hp : parts e ≤ 1000000) (h3 : varAt [m0] 0 3 = some [.mref none 4]) (h4 : varAt [m0] 0 4 = some [.ments [] []]) : RR 52 [e.av, f55] [m0] = some (.tup [], setVar [m0] 0 4 [rents (colsE [] e)]) :=
  walkR_ok e (by omega) m0 [] [] h3 h4
theorem sorted_c {e : E} (hp : parts e ≤ 1000000) (hw : wfC e) {vs : List (Nat × List AV)} {tk : List (Nat × Nat × Nat)} (h : vs.lookup 4 = some [rents (colsE [] e)]) :
    RR 56 [.func 89 [] [.cptr 0 (.mref (some 0) 4)]] [⟨vs, tk⟩] = some (.pv (.slc (ints (sortI (colsE [] e)))), [⟨vs, tk⟩]) := by
  have hl := colsE_len [] e
  simp only [List.length_nil, Nat.zero_add] at hl
  refine sorted_r (ks := ints (colsE [] e)) (xs := List.replicate (colsE [] e).length (B true)) ?_ (intKs_ints _) (nodupI_of (colsE_nodup [] e List.nodup_nil)) (cols_wfI hw) (by omega)
  unfold entsAt
  rw [show varAt [⟨vs, tk⟩] 0 4 = vs.lookup 4 from varAt_top ⟨vs, tk⟩ [] 4, h]
  rfl
theorem xReads_ok {e : E} (hp : parts e ≤ 1000000) (hw : wfC e) : RR 29 [e.av] [] = some (.pv (.slc (ints (sortI (colsE [] e)))), []) := by
  have h1 := @walkR_0 e
  have hs := @sorted_c e hp hw
  have hk : ∀ ms, RR 57 [.mref (some 0) 4] ms = some (.func 89 [] [.cptr 0 (.mref (some 0) 4)], ms) := fun ms => keys_r 0 4 ms
  apply xReads_r
  simp only [av_e e] at h1 ⊢
  simp only [xReads_b, xReads_h, xReads_rs, Try.f29, h1, hp, hs, hk, show (AV.cptr 0 (.mref (some 0) 4)).plain = false from (by simp [AV.plain]), show (AV.cptr 0 (.mref (some 0) 4)).reloc 0 = .cptr 0 (.mref (some 0) 4) from (by simp [AV.reloc]), F.EVT, Am.splice, Am.enterN, Am.freshMem, Am.cA, Am.cB, Am.cK, Am.cL, Am.cS, Am.cT, Am.cE, Am.aresults, Am.aresult, Am.codeKey, Am.frzTop, Am.spliceP, Nat.reduceAdd, Nat.reduceLeDiff, Nat.reduceBEq, Nat.reduceEqDiff, reduceIte, reduceCtorEq, Nat.reduceSub, Int.reduceBEq, Int.reduceSub, Int.reduceAdd, Int.reduceToNat, Int.reduceLT, Int.reduceLE, Int.reduceEq, Int.reduceNeg, Int.reduceBNe, Int.reduceGT, Int.reduceGE, Nat.reduceMul, Nat.reduceMod, Nat.reduceDiv]
  try rfl
end Go.Proofs.Ytjbmdfdgeioecaa.X
