/- ExprSteps: what the law gives. -/
import Derived.Test.YtjbmdfdgeioecaaN32
namespace Go.Proofs.Ytjbmdfdgeioecaa.X
open Go.Proofs.Ytjbmdfdgeioecaa.Am Go.Proofs.Ytjbmdfdgeioecaa.F
set_option linter.unusedVariables false
set_option linter.unusedSimpArgs false
set_option maxRecDepth 100000
set_option maxHeartbeats 1000000
theorem good_run {fs : List Fn} {e : E} {row : List V} {t time : Int} (h : Good fs e row t) : RnGood fs time fs.length row [] e :=
  rn_ok h.fns fs.length (Nat.le_refl _) h.fits (params := []) (ps := []) trivial e t h.parts (by rw [List.take_length]; exact h.ty) h.steps
mutual
theorem levels_cnt {l : List Int} (hl : ∀ x ∈ l, CapI x) {fs : List Fn} {cols params : List Int} (hf : fs.length ≤ l.length) : ∀ (e : E) (t : Int), ty fs cols params e = some t → cnt l e ≤ 10000 → (levels e : Int) ≤ cnt l e
  | .mk op n s args, t, ht, hb => by
    obtain ⟨s1, s2, s3⟩ := ty_shape ht
    obtain ⟨b1, b2, b3⟩ := cnt_args hl s2 (fun q => by have := s3 q; omega) hb
    simp only [E.args] at s1 b1 b2
    have hpos := (cnt_ok hl (.mk op n s args)).1
    have h1 := levelsL_cnt hl hf args s1 (cnt l (.mk op n s args) - 1) (by omega) (by omega) (fun a ha => ?_)
    · simp only [levels]; omega
    · by_cases h21 : op = 21
      · have h3 := s2 h21
        simp only [E.args] at h3
        match args, h3, ha, b1, hb with
        | [x, y, z], _, ha, b1, hb =>
          have hc : cnt l (.mk op n s [x, y, z]) = 1 + cnt l x + mxI (cnt l y) (cnt l z) := by
            rw [cnt_eq] at hb ⊢
            simp only [E.op, E.n, E.args] at hb ⊢
            rw [h21] at hb ⊢
            exact cntOp_21 (by simp only [cntL]) hb
          have hx := (cnt_ok hl x).1
          have hy := (cnt_ok hl y).1
          have hz := (cnt_ok hl z).1
          rw [hc]
          simp only [List.mem_cons, List.not_mem_nil, or_false] at ha
          unfold mxI
          rcases ha with rfl | rfl | rfl <;> split <;> omega
      · have hk0 : ∀ k ∈ args.map (cnt l), 0 ≤ k := fun k hk => by obtain ⟨b, _, rfl⟩ := List.mem_map.1 hk; have := (cnt_ok hl b).1; omega
        have hs := sumI_mem _ hk0 _ (List.mem_map_of_mem ha)
        have h2 := b2 h21
        simp only [E.op, E.n] at h2
        have h5 : 0 ≤ (if op = 22 then l.getD n.toNat 0 else 0) := by
          split
          · rename_i h22
            have h6 := s3 h22
            simp only [E.n] at h6
            have hlt : n.toNat < l.length := by omega
            have := hl _ (List.getElem_mem hlt)
            rw [List.getD_eq_getElem?_getD, List.getElem?_eq_getElem hlt, Option.getD_some]
            unfold CapI at this
            omega
          · omega
        omega
theorem levelsL_cnt {l : List Int} (hl : ∀ x ∈ l, CapI x) {fs : List Fn} {cols params : List Int} (hf : fs.length ≤ l.length) : ∀ (es : List E), (∀ a ∈ es, ∃ u, ty fs cols params a = some u) → ∀ (m : Int), 0 ≤ m → m + 1 ≤ 10000 → (∀ a ∈ es, cnt l a ≤ m) → (levelsL es : Int) ≤ m
  | [], _, m, h, _, _ => by simp only [levelsL]; omega
  | a :: es, hu, m, h, hm, hb => by
    obtain ⟨u, hu1⟩ := hu a List.mem_cons_self
    have h1 := levels_cnt hl hf a u hu1 (by have := hb a List.mem_cons_self; omega)
    have h2 := levelsL_cnt hl hf es (fun b hb => hu b (List.mem_cons_of_mem _ hb)) m h hm (fun b hb' => hb b (List.mem_cons_of_mem _ hb'))
    have h3 := hb a List.mem_cons_self
    simp only [levelsL]
    omega
end
theorem lsteps_ok {fs : List Fn} {e : E} {time : Int} {row : List V} (hn : fs.length ≤ LIM) (hr : row.length ≤ LIM) : RR 4 [slF fs, e.av, I time, slV row] [] = some (B true, []) := by
  have hg := good_ok (e := e) hn hr
  cases hb : goodB fs e row
  · rw [hb] at hg
    simp only [E.av] at hg
    apply lSteps_r
    simp only [lSteps_b, lSteps_h, lSteps_rs, Try.f4, E.av, hg, small_ok, F.EVT, Am.splice, Am.enterN, Am.freshMem, Am.cA, Am.cB, Am.cK, Am.cL, Am.cS, Am.cT, Am.cE, Am.aresults, Am.aresult, Am.codeKey, Nat.reduceAdd, Nat.reduceLeDiff, Nat.reduceBEq, Nat.reduceEqDiff, reduceIte, reduceCtorEq, Nat.reduceSub, Int.reduceBEq, Int.reduceSub, Int.reduceAdd, Int.reduceToNat, Int.reduceLT, Int.reduceLE, Int.reduceEq, Int.reduceNeg, Int.reduceBNe, Int.reduceGT, Int.reduceGE, Nat.reduceMul, Nat.reduceMod, Nat.reduceDiv]
    try rfl
  · rw [hb] at hg
    obtain ⟨t, G⟩ := good_of hb
    obtain ⟨h1, _, h2⟩ := good_run (time := time) G
    have h3 := xSteps_ok G
    have h4 := rLevels_ok e G.parts
    have hlen : (bodiesL [] fs).length = fs.length := by rw [bodiesL_len]; simp
    have h5 := levels_cnt (bodiesL_ok fs [] (fun x hx => by cases hx)) (by omega) e t G.ty G.steps
    change nD fs time fs.length row [] e ≤ stepsOf fs e at h2
    change (levels e : Int) ≤ stepsOf fs e at h5
    generalize stepsOf fs e = n at h2 h3 h5
    generalize nD fs time fs.length row [] e = k at h1 h2
    generalize evD fs time fs.length row [] e = v at h1
    generalize (levels e : Int) = lv at h4 h5
    simp only [E.av, cv, show slV [] = .pv (.slc []) from rfl] at hg h1 h3 h4
    apply lSteps_r
    simp only [lSteps_b, lSteps_h, lSteps_rs, Try.f4, E.av, hg, small_ok, h1, h2, h3, h4, h5, F.EVT, Am.splice, Am.enterN, Am.freshMem, Am.cA, Am.cB, Am.cK, Am.cL, Am.cS, Am.cT, Am.cE, Am.aresults, Am.aresult, Am.codeKey, Nat.reduceAdd, Nat.reduceLeDiff, Nat.reduceBEq, Nat.reduceEqDiff, reduceIte, reduceCtorEq, Nat.reduceSub, Int.reduceBEq, Int.reduceSub, Int.reduceAdd, Int.reduceToNat, Int.reduceLT, Int.reduceLE, Int.reduceEq, Int.reduceNeg, Int.reduceBNe, Int.reduceGT, Int.reduceGE, Nat.reduceMul, Nat.reduceMod, Nat.reduceDiv]
    try rfl
end Go.Proofs.Ytjbmdfdgeioecaa.X
