/- The time, by the code: walking with the closure; Timed. -/
import Derived.Test.YtjbmdfdgeioecaaN27
import Derived.Test.YtjbmdfdgeioecaaN34
import Derived.Test.YtjbmdfdgeioecaaN46
namespace Go.Proofs.Ytjbmdfdgeioecaa.X
open Go.Proofs.Ytjbmdfdgeioecaa.Am Go.Proofs.Ytjbmdfdgeioecaa.F
set_option linter.unusedVariables false
set_option linter.unusedSimpArgs false
set_option maxRecDepth 100000
set_option maxHeartbeats 1000000
abbrev f53 : AV := .func 53 [] [.ptr (some 1) 4 0, .ptr (some 0) 5 0]
theorem varAt_up2 (m ma mb : Mem) (ms : List Mem) (s : Nat) : varAt (m :: ma :: mb :: ms) 1 s = varAt (ma :: mb :: ms) 1 s := by
  rw [varAt_cons, if_neg (by simp)]
theorem setVar_up2 (m ma mb : Mem) (ms : List Mem) (s : Nat) (cs : List AV) : setVar (m :: ma :: mb :: ms) 1 s cs = m :: setVar (ma :: mb :: ms) 1 s cs := by
  obtain ⟨vs, tk⟩ := m
  rw [setVar_cons, if_neg (by simp)]
theorem setVar_shape2 (ma mb : Mem) (ms : List Mem) (d s : Nat) (a : List AV) : ∃ ma' mb' ms', setVar (ma :: mb :: ms) d s a = ma' :: mb' :: ms' ∧ ms'.length = ms.length := by
  obtain ⟨m1, ms1, h1, h2⟩ := setVar_shape ma (mb :: ms) d s a
  cases ms1 with
  | nil => simp at h2
  | cons m2 ms2 => exact ⟨m1, m2, ms2, h1, by simpa using h2⟩
theorem varAt_other {ms : List Mem} {cs : List AV} : varAt (setVar ms 1 4 cs) 0 5 = varAt ms 0 5 := by
  rw [varAt_setVar, if_neg (by simp)]
/-- Calls of functions are in range. -/
def InR (k : Nat) (e : E) : Prop := e.op = 22 → 0 ≤ e.n ∧ e.n < k
theorem walkT_loop {e : E} {tl : List Bool} (hl : ∀ a ∈ e.args, ∀ (ma mb : Mem) (ms : List Mem) (b : Bool), varAt (ma :: mb :: ms) 1 4 = some [B b] → varAt (ma :: mb :: ms) 0 5 = some [mkOwn 22 (bols tl)] → RR 52 [a.av, f53] (ma :: mb :: ms) = some (.tup [], setVar (ma :: mb :: ms) 1 4 [B (b || timedE tl a)])) (hn : e.args.length ≤ 1000000000) :
    ∀ (xs : List E) (i : Nat) (b : Bool) (ma mb : Mem) (ms : List Mem) (st : St), e.args.drop i = xs → i ≤ e.args.length → varAt (ma :: mb :: ms) 1 4 = some [B b] → varAt (ma :: mb :: ms) 0 5 = some [mkOwn 22 (bols tl)] →
    St.forget (walk_h.at 3) st = walk_t3 f53 (slE e.args) (I e.args.length) (I i) (⟨[], []⟩ :: ma :: mb :: ms) → leaveR PP walk_rs (ms.length + 2) (blockC 0 (walk_L 3 st)) = some (.tup [], setVar (ma :: mb :: ms) 1 4 [B (b || timedL tl xs)])
  | [], i, b, ma, mb, ms, st, h, hle, hv, hw, hst => by
    have he : i = e.args.length := by have := drop_nil' h; omega
    subst he
    rw [walk_q3, hst]
    simp only [timedL, Bool.or_false]
    rw [setVar_same hv]
    rw [walk_e3]; simp only [walk_k3, walk_l3, walk_b, walk_rs, Try.f52, Int.lt_irrefl, F.EVT, Am.splice, Am.enterN, Am.freshMem, Am.cA, Am.cB, Am.cK, Am.cL, Am.cS, Am.cT, Am.cE, Am.aresults, Am.aresult, Am.codeKey, Am.frzTop, Am.spliceP, Nat.reduceAdd, Nat.reduceLeDiff, Nat.reduceBEq, Nat.reduceEqDiff, reduceIte, reduceCtorEq, Nat.reduceSub, Int.reduceBEq, Int.reduceSub, Int.reduceAdd, Int.reduceToNat, Int.reduceLT, Int.reduceLE, Int.reduceEq, Int.reduceNeg, Int.reduceBNe, Int.reduceGT, Int.reduceGE, Nat.reduceMul, Nat.reduceMod, Nat.reduceDiv]
    try rfl
  | x :: xs, i, b, ma, mb, ms, st, h, hle, hv, hw, hst => by
    obtain ⟨hlt, hi, hd⟩ := drop_cons h
    have hlt' : (i : Int) < e.args.length := by omega
    have hx := hl x (List.mem_of_getElem? hi) (⟨[(5, emem x)], []⟩) ma (mb :: ms) b (by rw [varAt_up2]; exact hv) (by rw [varAt_up]; exact hw)
    rw [setVar_up2] at hx
    simp only [E.av] at hx
    obtain ⟨m1, m2, ms1, h1, h2⟩ := setVar_shape2 ma mb ms 1 4 [B (b || timedE tl x)]
    have hv1 := varAt_some (cs := [B (b || timedE tl x)]) hv
    have hw1 : varAt (setVar (ma :: mb :: ms) 1 4 [B (b || timedE tl x)]) 0 5 = some [mkOwn 22 (bols tl)] := by rw [varAt_other]; exact hw
    have ht := setVar_twice (ma :: mb :: ms) 1 4 [B (b || timedE tl x)] [B (b || timedE tl x || timedL tl xs)]
    rw [h1] at hx hv1 hw1 ht
    rw [walk_q3, hst]
    have hs : ∃ st', walk_X3 (walk_t3 f53 (slE e.args) (I e.args.length) (I i) (⟨[], []⟩ :: ma :: mb :: ms)) = walk_L 3 st' ∧ St.forget (walk_h.at 3) st' = walk_t3 f53 (slE e.args) (I e.args.length) (I (i + 1 : Nat)) (⟨[], []⟩ :: m1 :: m2 :: ms1) := by
      generalize (b || timedE tl x) = bb at hx
      rw [walk_e3]; simp only [walk_l3, walk_b, walk_rs, Try.f52, index_E hi, hlt', hx, wrapS hlt (show e.args.length ≤ LIM by simp only [LIM]; omega), F.EVT, Am.splice, Am.enterN, Am.freshMem, Am.cA, Am.cB, Am.cK, Am.cL, Am.cS, Am.cT, Am.cE, Am.aresults, Am.aresult, Am.codeKey, Am.frzTop, Am.spliceP, Nat.reduceAdd, Nat.reduceLeDiff, Nat.reduceBEq, Nat.reduceEqDiff, reduceIte, reduceCtorEq, Nat.reduceSub, Int.reduceBEq, Int.reduceSub, Int.reduceAdd, Int.reduceToNat, Int.reduceLT, Int.reduceLE, Int.reduceEq, Int.reduceNeg, Int.reduceBNe, Int.reduceGT, Int.reduceGE, Nat.reduceMul, Nat.reduceMod, Nat.reduceDiv]
      exact ⟨_, rfl, by kernel_rfl⟩
    obtain ⟨st', g1, g2⟩ := hs
    rw [g1, show (b || timedL tl (x :: xs)) = (b || timedE tl x || timedL tl xs) by simp only [timedL, Bool.or_assoc], ← ht, ← h2]
    exact walkT_loop hl hn xs (i + 1) (b || timedE tl x) m1 m2 ms1 st' hd hlt hv1 hw1 g2
theorem walkT_ok {fs : List Fn} {cols params : List Int} {tl : List Bool} (hlen : fs.length ≤ tl.length) : ∀ (e : E), parts e ≤ 1000000 → ∀ t, ty fs cols params e = some t → ∀ (ma mb : Mem) (ms : List Mem) (b : Bool), varAt (ma :: mb :: ms) 1 4 = some [B b] → varAt (ma :: mb :: ms) 0 5 = some [mkOwn 22 (bols tl)] → RR 52 [e.av, f53] (ma :: mb :: ms) = some (.tup [], setVar (ma :: mb :: ms) 1 4 [B (b || timedE tl e)]) := by
  apply E.ind (p := fun e => parts e ≤ 1000000 → ∀ t, ty fs cols params e = some t → ∀ (ma mb : Mem) (ms : List Mem) (b : Bool), varAt (ma :: mb :: ms) 1 4 = some [B b] → varAt (ma :: mb :: ms) 0 5 = some [mkOwn 22 (bols tl)] → RR 52 [e.av, f53] (ma :: mb :: ms) = some (.tup [], setVar (ma :: mb :: ms) 1 4 [B (b || timedE tl e)]))
  intro e ih hp t hty ma mb ms b hv hw
  rw [parts_eq] at hp
  have hn := partsL_len e.args
  obtain ⟨s1, s2, s3⟩ := ty_shape hty
  have h1 := timed11_ok e ⟨[(2, emem e)], []⟩ ma (mb :: ms) b tl (by rw [varAt_up2]; exact hv) (by rw [varAt_up]; exact hw) (fun q => by have := s3 q; omega)
  rw [setVar_up2] at h1
  obtain ⟨m1, m2, ms1, g1, g2⟩ := setVar_shape2 ma mb ms 1 4 [B (b || selfT tl e)]
  have hv1 := varAt_some (cs := [B (b || selfT tl e)]) hv
  have hw1 : varAt (setVar (ma :: mb :: ms) 1 4 [B (b || selfT tl e)]) 0 5 = some [mkOwn 22 (bols tl)] := by rw [varAt_other]; exact hw
  have ht := setVar_twice (ma :: mb :: ms) 1 4 [B (b || selfT tl e)] [B (b || selfT tl e || timedL tl e.args)]
  rw [g1] at h1 hv1 hw1 ht
  have hloop := walkT_loop (e := e) (tl := tl) (fun a ha => by obtain ⟨u, hu⟩ := s1 a ha; exact ih a ha (by have := partsL_mem ha; omega) u hu) (by omega) e.args 0 (b || selfT tl e) m1 m2 ms1
  rw [timedE_self, ← Bool.or_assoc, ← ht]
  apply walk_r
  generalize hr : (some (AV.tup [], setVar (m1 :: m2 :: ms1) 1 4 [B (b || selfT tl e || timedL tl e.args)])) = r at hloop ⊢
  generalize (b || selfT tl e) = bb at h1 hloop hv1
  simp only [av_e e] at h1 ⊢
  rw [List.length_cons, List.length_cons, ← g2]
  simp only [walk_b, walk_h, walk_rs, Try.f52, h1, F.EVT, Am.splice, Am.enterN, Am.freshMem, Am.cA, Am.cB, Am.cK, Am.cL, Am.cS, Am.cT, Am.cE, Am.aresults, Am.aresult, Am.codeKey, Am.frzTop, Am.spliceP, Nat.reduceAdd, Nat.reduceLeDiff, Nat.reduceBEq, Nat.reduceEqDiff, reduceIte, reduceCtorEq, Nat.reduceSub, Int.reduceBEq, Int.reduceSub, Int.reduceAdd, Int.reduceToNat, Int.reduceLT, Int.reduceLE, Int.reduceEq, Int.reduceNeg, Int.reduceBNe, Int.reduceGT, Int.reduceGE, Nat.reduceMul, Nat.reduceMod, Nat.reduceDiv]
  exact hloop _ rfl (Nat.zero_le _) hv1 hw1 (by kernel_rfl)
end Go.Proofs.Ytjbmdfdgeioecaa.X
