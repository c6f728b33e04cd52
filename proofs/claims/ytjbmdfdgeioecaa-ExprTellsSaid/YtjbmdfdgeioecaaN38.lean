/- Walking an expression with the counter. -/
import Derived.Test.YtjbmdfdgeioecaaN37
namespace Go.Proofs.Ytjbmdfdgeioecaa.X
open Go.Proofs.Ytjbmdfdgeioecaa.Am Go.Proofs.Ytjbmdfdgeioecaa.F
set_option linter.unusedVariables false
set_option linter.unusedSimpArgs false
set_option maxRecDepth 100000
set_option maxHeartbeats 1000000
theorem setAt_twice {β : Type} (s : Nat) (a b : β) : ∀ l : List (Nat × β), setAt s b (setAt s a l) = setAt s b l
  | [] => by simp [setAt]
  | (s', c) :: l => by
    by_cases h : s' = s
    · simp [setAt, h]
    · simp [setAt, h, setAt_twice s a b l]
theorem modMem_twice (f g : Mem → Mem) : ∀ (ms : List Mem) (d : Nat), modMem f (modMem g ms d) d = modMem (fun m => f (g m)) ms d
  | [], d => rfl
  | m :: ms, d => by
    by_cases h : d = ms.length
    · simp [modMem, h]
    · simp [modMem, h, modMem_length, modMem_twice f g ms d]
theorem setVar_twice (ms : List Mem) (d s : Nat) (a b : List AV) : setVar (setVar ms d s a) d s b = setVar ms d s b := by
  unfold setVar
  rw [modMem_twice]
  congr 1
  funext m
  simp only [setAt_twice]
theorem setAt_same {β : Type} {s : Nat} {a : β} : ∀ {l : List (Nat × β)}, l.lookup s = some a → setAt s a l = l
  | [], h => by simp at h
  | (s', c) :: l, h => by
    by_cases hs : s = s'
    · subst hs; simp at h; subst h; simp [setAt]
    · have hb : (s == s') = false := by simpa using hs
      rw [List.lookup_cons, hb] at h
      simp only [setAt]
      rw [if_neg (fun q => hs q.symm), setAt_same h]
theorem modMem_same {f : Mem → Mem} : ∀ {ms : List Mem} {d : Nat}, (∀ m, memAt ms d = some m → f m = m) → modMem f ms d = ms
  | [], d, h => rfl
  | m :: ms, d, h => by
    by_cases hd : d = ms.length
    · simp only [modMem, if_pos hd]; rw [h m (by simp [memAt, hd])]
    · simp only [modMem, if_neg hd]; rw [modMem_same (fun x hx => h x (by simp [memAt, hd, hx]))]
theorem setVar_same {ms : List Mem} {d s : Nat} {cs : List AV} (h : varAt ms d s = some cs) : setVar ms d s cs = ms := by
  unfold setVar
  refine modMem_same fun m hm => ?_
  unfold varAt at h
  rw [hm] at h
  have h' : m.vars.lookup s = some cs := h
  rw [setAt_same h']
theorem setVar_shape (m : Mem) (ms : List Mem) (d s : Nat) (a : List AV) : ∃ m' ms', setVar (m :: ms) d s a = m' :: ms' ∧ ms'.length = ms.length := by
  unfold setVar modMem
  split
  · exact ⟨_, _, rfl, rfl⟩
  · exact ⟨_, _, rfl, modMem_length _ _ _⟩
theorem varAt_some {ms : List Mem} {d s : Nat} {x cs : List AV} (h : varAt ms d s = some x) : varAt (setVar ms d s cs) d s = some cs := by
  rw [varAt_setVar, if_pos]
  refine ⟨rfl, rfl, ?_⟩
  unfold varAt at h
  cases hm : memAt ms d with
  | none => rw [hm] at h; cases h
  | some m => rfl
theorem varAt_up (m m0 : Mem) (ms : List Mem) (s : Nat) : varAt (m :: m0 :: ms) 0 s = varAt (m0 :: ms) 0 s := by
  rw [varAt_cons, if_neg (by simp)]
theorem setVar_up (m m0 : Mem) (ms : List Mem) (s : Nat) (cs : List AV) : setVar (m :: m0 :: ms) 0 s cs = m :: setVar (m0 :: ms) 0 s cs := by
  obtain ⟨vs, tk⟩ := m
  rw [setVar_cons, if_neg (by simp)]
theorem walkC_loop {e : E} (hl : ∀ a ∈ e.args, ∀ (m0 : Mem) (ms : List Mem) (c : Nat), c + parts a ≤ 1000000000 → varAt (m0 :: ms) 0 10 = some [I c] → RR 52 [a.av, f85] (m0 :: ms) = some (.tup [], setVar (m0 :: ms) 0 10 [I (c + parts a : Nat)])) (hn : e.args.length ≤ 1000000000) :
    ∀ (xs : List E) (i c : Nat) (m0 : Mem) (ms : List Mem) (st : St), e.args.drop i = xs → i ≤ e.args.length → c + partsL xs ≤ 1000000000 → varAt (m0 :: ms) 0 10 = some [I c] →
    St.forget (walk_h.at 3) st = walk_t3 f85 (slE e.args) (I e.args.length) (I i) (⟨[], []⟩ :: m0 :: ms) → leaveR PP walk_rs (ms.length + 1) (blockC 0 (walk_L 3 st)) = some (.tup [], setVar (m0 :: ms) 0 10 [I (c + partsL xs : Nat)])
  | [], i, c, m0, ms, st, h, hle, hc, hv, hst => by
    have he : i = e.args.length := by have := drop_nil' h; omega
    subst he
    rw [walk_q3, hst]
    simp only [partsL, Nat.add_zero]
    rw [setVar_same hv]
    rw [walk_e3]; simp only [walk_k3, walk_l3, walk_b, walk_rs, Try.f52, Int.lt_irrefl, F.EVT, Am.splice, Am.enterN, Am.freshMem, Am.cA, Am.cB, Am.cK, Am.cL, Am.cS, Am.cT, Am.cE, Am.aresults, Am.aresult, Am.codeKey, Nat.reduceAdd, Nat.reduceLeDiff, Nat.reduceBEq, Nat.reduceEqDiff, reduceIte, reduceCtorEq, Nat.reduceSub, Int.reduceBEq, Int.reduceSub, Int.reduceAdd, Int.reduceToNat, Int.reduceLT, Int.reduceLE, Int.reduceEq, Int.reduceNeg, Int.reduceBNe, Int.reduceGT, Int.reduceGE, Nat.reduceMul, Nat.reduceMod, Nat.reduceDiv]
    try rfl
  | x :: xs, i, c, m0, ms, st, h, hle, hc, hv, hst => by
    obtain ⟨hlt, hi, hd⟩ := drop_cons h
    have hlt' : (i : Int) < e.args.length := by omega
    simp only [partsL] at hc
    have hx := hl x (List.mem_of_getElem? hi) (⟨[(5, emem x)], []⟩) (m0 :: ms) c (by omega) (by rw [varAt_up]; exact hv)
    rw [setVar_up] at hx
    simp only [E.av] at hx
    obtain ⟨m1, ms1, h1, h2⟩ := setVar_shape m0 ms 0 10 [I (c + parts x : Nat)]
    have hv1 := varAt_some (cs := [I (c + parts x : Nat)]) hv
    have ht := setVar_twice (m0 :: ms) 0 10 [I (c + parts x : Nat)] [I (c + parts x + partsL xs : Nat)]
    rw [h1] at hx hv1 ht
    rw [walk_q3, hst]
    have hs : ∃ st', walk_X3 (walk_t3 f85 (slE e.args) (I e.args.length) (I i) (⟨[], []⟩ :: m0 :: ms)) = walk_L 3 st' ∧ St.forget (walk_h.at 3) st' = walk_t3 f85 (slE e.args) (I e.args.length) (I (i + 1 : Nat)) (⟨[], []⟩ :: m1 :: ms1) := by
      rw [walk_e3]; simp only [walk_l3, walk_b, walk_rs, Try.f52, index_E hi, hlt', hx, wrapS hlt (show e.args.length ≤ LIM by simp only [LIM]; omega), F.EVT, Am.splice, Am.enterN, Am.freshMem, Am.cA, Am.cB, Am.cK, Am.cL, Am.cS, Am.cT, Am.cE, Am.aresults, Am.aresult, Am.codeKey, Nat.reduceAdd, Nat.reduceLeDiff, Nat.reduceBEq, Nat.reduceEqDiff, reduceIte, reduceCtorEq, Nat.reduceSub, Int.reduceBEq, Int.reduceSub, Int.reduceAdd, Int.reduceToNat, Int.reduceLT, Int.reduceLE, Int.reduceEq, Int.reduceNeg, Int.reduceBNe, Int.reduceGT, Int.reduceGE, Nat.reduceMul, Nat.reduceMod, Nat.reduceDiv]
      exact ⟨_, rfl, by kernel_rfl⟩
    obtain ⟨st', g1, g2⟩ := hs
    rw [g1, show c + partsL (x :: xs) = c + parts x + partsL xs by simp only [partsL]; omega, ← ht, ← h2]
    exact walkC_loop hl hn xs (i + 1) (c + parts x) m1 ms1 st' hd hlt (by omega) hv1 g2
theorem walkC_ok : ∀ (e : E), ∀ (m0 : Mem) (ms : List Mem) (c : Nat), c + parts e ≤ 1000000000 → varAt (m0 :: ms) 0 10 = some [I c] → RR 52 [e.av, f85] (m0 :: ms) = some (.tup [], setVar (m0 :: ms) 0 10 [I (c + parts e : Nat)]) := by
  apply E.ind (p := fun e => ∀ (m0 : Mem) (ms : List Mem) (c : Nat), c + parts e ≤ 1000000000 → varAt (m0 :: ms) 0 10 = some [I c] → RR 52 [e.av, f85] (m0 :: ms) = some (.tup [], setVar (m0 :: ms) 0 10 [I (c + parts e : Nat)]))
  intro e ih m0 ms c hc hv
  have hpa := parts_eq e
  have hn := partsL_len e.args
  have h1 := inline1_ok e ⟨[(2, emem e)], []⟩ m0 ms c (by omega) hv
  obtain ⟨m1, ms1, g1, g2⟩ := setVar_shape m0 ms 0 10 [I (c + 1 : Nat)]
  have hv1 := varAt_some (cs := [I (c + 1 : Nat)]) hv
  have ht := setVar_twice (m0 :: ms) 0 10 [I (c + 1 : Nat)] [I (c + 1 + partsL e.args : Nat)]
  rw [g1] at h1 hv1 ht
  have hloop := walkC_loop (e := e) (fun a ha => ih a ha) (by omega) e.args 0 (c + 1) m1 ms1
  rw [show c + parts e = c + 1 + partsL e.args by omega, ← ht]
  apply walk_r
  generalize hr : (some (AV.tup [], setVar (m1 :: ms1) 0 10 [I (c + 1 + partsL e.args : Nat)])) = r at hloop ⊢
  simp only [av_e e] at h1 ⊢
  rw [List.length_cons, ← g2]
  simp only [walk_b, walk_h, walk_rs, Try.f52, h1, F.EVT, Am.splice, Am.enterN, Am.freshMem, Am.cA, Am.cB, Am.cK, Am.cL, Am.cS, Am.cT, Am.cE, Am.aresults, Am.aresult, Am.codeKey, Nat.reduceAdd, Nat.reduceLeDiff, Nat.reduceBEq, Nat.reduceEqDiff, reduceIte, reduceCtorEq, Nat.reduceSub, Int.reduceBEq, Int.reduceSub, Int.reduceAdd, Int.reduceToNat, Int.reduceLT, Int.reduceLE, Int.reduceEq, Int.reduceNeg, Int.reduceBNe, Int.reduceGT, Int.reduceGE, Nat.reduceMul, Nat.reduceMod, Nat.reduceDiv]
  exact hloop _ rfl (Nat.zero_le _) (by omega) hv1 (by kernel_rfl)
end Go.Proofs.Ytjbmdfdgeioecaa.X
